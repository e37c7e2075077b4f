/- Lemmas for ModelOrs (11 of 15). No conditions. -/
import Derived.Test.YthnogncknmhgoaaGreatM9
set_option linter.all false
set_option maxRecDepth 100000
set_option maxHeartbeats 485000000
open Go.Proofs.Tryz
namespace Go.Proofs.YthnogncknmhgoaaGreat.Vm
open ChangeShapes WideShapes ChangeAt RowKit bq Data Mo
variable{cy:AV}{cj:Act}{nM:Act→Wd→Prop}{hY:Array (Nat×Operand)}{bQ:Array Bool}{ky:Array Edge}{dw Kx:Array MapEntry}{dk:Array Oper}{c8:Array Operand}{fi:Array TypeId}{aY im:BA}{h8:BA→Option Vl}{rT:BA→bU}{ca:Bool}{gl:Code}{hB:er}{dj:eF}{rm:Ending}{aM:Ex}{eN:Exit}{xF:Exit→Act→List Frame→Wd→Prop}{dy:Exit→Act→Wd→Prop}{cI:cT}{oJ:Frame}{us:FrameMode}{ur:FrameMode→ka}{dx:Func}{bk:FuncId}{b1 ff:Hp}{aJ:Hx}{bi c0:Int}{rZ:Int→Option Int}{kW:Int→Option Vl}{aj bj:LV}{bu:List (Nat×AV)}{ec tL:List BA}{aS:List Bx}{r6:List Deferred}{r5:List Frame}{cC:List Int}{aI:List Nat}{gb:List Oper}{ov:List PanicEntry}{dY:List Rl}{aV:List bU}{b4:List Ty}{ak:Md}{ie:Mo.ei Ty}{ae ao aX eO:Nat}{dl:Nat→Bool}{gI:Nat→M Unit}{a0:Nat→Nat}{nR:Nat→Prop}{aA:OA}{fH:Obj}{cx:Op}{rY:Operand}{ap aW:PS}{dZ:ka}{oK:Program}{k8 nU u3:ResultVar}{aD:cU}{bI:St}{kx:String}{fV iI:bU}{bC:Ty}{cW:Type}{aH ci:TypeId}{az cM fp:Vl}{hF:Vl→Wd→Prop}{ah bR:Wd}
section
variable{S:St}{R:Wd}{ty:TypeId}{K:Nat→Bool}
theorem Kn{x y:Operand}(d:ev S x=some (.val (zI bi)))(e:ev S y=some (.val (zI c0))):bO K S R (.call {callee:= .builtin .max,args:=#[x,y],argTypes:=#[aH,ci]}) ty (.val (zI (max bi c0))):=
 bO.of fun ad ac W dst pos af f c g=>by
  have a:=c.eval d
  have b:=c.eval e
  simp only[AV.den] at a b
  have h3:(Builtin.max2 (zI bi) (zI c0)).run prog W= .ok (zI (max bi c0)) W:=by
   simp[Builtin.max2]
   omega
  simp[execOp,resolve,invoke,builtin,a,b,Builtin.max_,Result.andThen,h3]
theorem Ko{x y:Operand}(d:ev S x=some (.val (zI bi)))(e:ev S y=some (.val (zI c0))):bO K S R (.call {callee:= .builtin .min,args:=#[x,y],argTypes:=#[aH,ci]}) ty (.val (zI (min bi c0))):=
 bO.of fun ad ac W dst pos af f c g=>by
  have a:=c.eval d
  have b:=c.eval e
  simp only[AV.den] at a b
  have h3:(Builtin.min2 (zI bi) (zI c0)).run prog W= .ok (zI (min bi c0)) W:=by
   simp[Builtin.min2]
   omega
  simp[execOp,resolve,invoke,builtin,a,b,Builtin.min_,Result.andThen,h3]
def iC (n:Int):Nat:=(min (max n 0) 65536).toNat
theorem Kq(n:Int):((iC n:Nat):Int)=min (max n 0) 65536:=by unfold iC;omega
theorem Kr(n:Int):iC n≤65536:=by unfold iC;omega
theorem Ks{x y:Operand}{n:Int}(a:ev S x=some (.val (zI (max n 0))))(b:ev S y=some (.val (zI 65536))):bO K S R (.call {callee:= .builtin .min,args:=#[x,y],argTypes:=#[aH,ci]}) ty (.val (zI ((iC n:Nat):Int))):=by
 rw[Kq]
 exact Ko a b
end
theorem Cw{rw:List bU}{i:Nat}{x y u:Operand}{b t:Nat}{f:BA→Option Vl}{z v:Vl}
 (C:dk[i]?=some ⟨none,.mapUpdate ci x y u,aH,kx,ky,none⟩) (E:ev ⟨bu,aS,rw⟩ x=some (.val (.map (some b)))) (F:ev ⟨bu,aS,rw⟩ y=some (.val (.string aY))) (hu:ev ⟨bu,aS,rw⟩ u=some (.val v)) (q:aJ.H b=some (.map dw t)) (h:g9 dw f) (A:kc ci .string z) (w:∀b ob,b1 b=some ob→aJ.K b=some ob)
 (k:∀d e X',g9 d (gd f aY v)→X'=⟨aJ.K,aQ aJ.H b (.map d e)⟩→cQ dj dl b1 bI bR a0 dk dy ae (bQ.setIfInBounds i true) ⟨bu,aS,rw⟩ ah X') (D:dV dj dl b1 bI bR a0 dk dy ae bQ ⟨bu,aS,rw⟩ ah aJ aI):dV dj dl b1 bI bR a0 dk dy ae bQ ⟨bu,aS,rw⟩ ah aJ (i::aI):=by
 intro j m ad a W g l
 rcases dX.1 m with rfl|m
 ·have n:=g.rel.eval E
  have o:=g.rel.eval F
  have h3:=g.rel.eval hu
  simp only[AV.den] at n o h3
  have p:=g.own.h b _ q
  obtain⟨d,e,g1,g2⟩:=AS A p h aY v
  have:(execOp a.eval ⟨none,.mapUpdate ci x y u,aH,kx,ky,none⟩).run prog W= .ok .skip {W with heap:=W.heap.setIfInBounds b (.map d e)}:=by
   simp only[execOp,n,o,h3,Sem.run_bind,g1,Result.andThen_ok,Sem.run_pure]
  have s:=g.ko (b:=b) (ot:= .map d e) (by rw[q];simp) (tP p)
  have r:lY dl b1 bI bR a0 ⟨bu,aS,rw⟩ ah ⟨aJ.K,aQ aJ.H b (.map d e)⟩ ad:=⟨l.ad,l.bx,l.sub,l.le,fun c ob B=> .inl (w c ob B)⟩
  unfold wpOp
  simp only[C,Region.wanted]
  refine .inl ?_
  unfold Oper.wp
  rw[this]
  exact⟨s.held r,k d e _ g2 rfl ad a _ s r⟩
 ·exact D j m ad a W g l
theorem nA{rw:List bU}(k:cQ dj dl b1 bI ah a0 dk dy ae bQ ⟨bu,aS,iI::fV::rw⟩ bR aJ):cQ dj dl b1 bI ah a0 dk dy ae bQ ⟨bu,aS,fV::iI::rw⟩ bR aJ:=p6 _ (List.Perm.swap _ _ _) k
theorem Cx{rw:List bU}(e size:Nat)(k:cQ dj dl b1 bI ah a0 dk dy ae bQ ⟨bu,aS,⟨zS,0,[],e,size⟩::rw⟩ bR aJ):cQ dj dl b1 bI ah a0 dk dy ae bQ ⟨bu,aS,rw⟩ bR aJ:=fun ad a W c b=>k ad a W (ck.lI (S:=⟨bu,aS,rw⟩) c e size) ⟨b.ad,b.bx,b.sub,b.le,b.hh⟩
def p7 (T:ByteArray→bU) (s:ByteArray) (t:bU):ByteArray→bU:=fun k=>if k=s then t else T k
theorem Cy(T:BA→bU)(s:BA)(t:bU):p7 T s t s=t:=if_pos rfl
theorem Cz(h:im≠aY):p7 rT aY fV im=rT im:=if_neg h
theorem CA(h:aY∉ec):(aY::ec).map (p7 rT aY fV)=fV::ec.map rT:=by
 rw[List.map_cons,Cy]
 congr 1
 exact List.map_congr_left fun k a=>Cz (fun e=>h (e▸a))
def lq (l:List ByteArray) (s:ByteArray):List ByteArray:=l.filter fun k=>decide (k≠s)
theorem CB:im∈lq ec aY↔im∈ec∧im≠aY:=by unfold lq;simp
theorem Kt(h:ec.Nodup):(lq ec aY).Nodup:=h.filter _
theorem CC{s:BA}:∀{l:List BA},l.Nodup→s∈l→(s::lq l s).Perm l
 |a::l,h,f=>by
  obtain⟨b,c⟩:=List.nodup_cons.1 h
  by_cases e:a=s
  ·subst e
   have:lq (a::l) a=l:=by
    unfold lq
    rw[List.filter_cons_of_neg (by simp)]
    exact List.filter_eq_self.2 fun k d=>by simp;exact fun q=>b (q▸d)
   rw[this]
  ·have g:s∈l:=by
    rcases dX.1 f with q|q
    ·exact absurd q.symm e
    ·exact q
   have:lq (a::l) s=a::lq l s:=by
    unfold lq
    rw[List.filter_cons_of_pos (by simpa using e)]
   rw[this]
   exact(List.Perm.swap _ _ _).trans ((CC c g).cons a)
def ey (l:List Rl) (i:Nat) (s:ByteArray):List Rl:=(l.take i).filter fun r=>decide (r.s=s)
def hd (m:Md):cU:=fun s=>m.rs.filter fun r=>decide (r.s=s)
theorem Ku(l:List Rl)(s:BA):ey l 0 s=[]:=by simp[ey]
theorem nB{i:Nat}(h:i<dY.length):ey dY (i+1) dY[i].s=ey dY i dY[i].s++ [dY[i]]:=by
 unfold ey
 rw[List.take_succ_eq_append_getElem h,List.filter_append]
 simp
theorem CD{i:Nat}(h:i<dY.length)(a:aY≠dY[i].s):ey dY (i+1) aY=ey dY i aY:=by
 unfold ey
 rw[List.take_succ_eq_append_getElem h,List.filter_append]
 have:¬dY[i].s=aY:=fun e=>a e.symm
 simp[this]
theorem xq(l:List Rl)(i:Nat)(s:BA):(ey l i s).length≤l.length:=by
 unfold ey
 refine dS (List.length_filter_le _ _) ?_
 rw[List.length_take]
 exact Nat.min_le_right _ _
theorem Kv(m:Md)(s:BA):ey m.rs m.rs.length s=hd m s:=by unfold ey hd;rw[List.take_length]
def Kw (a:World) (f:ByteArray→Option Value) (T:ByteArray→bU) (l:List Rl) (s:ByteArray):Prop:=
 ∃A cap xs,T s=⟨.slice A l.length cap,l.length,xs,112,11⟩∧f s=some (.slice A l.length cap)∧dL Rl.Cs 11 a A l cap xs
structure uo (m:Md) (i:Nat) (Rq:World) (es:Array MapEntry) (f:ByteArray→Option Value) (ks:List ByteArray) (T:ByteArray→bU):Prop where
 is:g9 es f
 nd:ks.Nodup
 no:∀s,s∉ks→f s=none∧ey m.rs i s=[]
 xr:∀s∈ks,Kw Rq f T (ey m.rs i s) s
theorem uo.step{m:Md}{i:Nat}(h:uo m i ah dw h8 ec rT)(d:i<m.rs.length)(r:Sub ah bR)(b:(∀s,s∈tL↔s∈ec∧s≠m.rs[i].s)∧tL.Nodup)
 (p:dL Rl.Cs 11 bR aA (ey m.rs (i+1) m.rs[i].s) ae aj) (n:g9 Kx (gd h8 m.rs[i].s (.slice aA (ey m.rs (i+1) m.rs[i].s).length ae))):
 uo m (i+1) bR Kx (gd h8 m.rs[i].s (.slice aA (ey m.rs (i+1) m.rs[i].s).length ae)) (m.rs[i].s::tL) (p7 rT m.rs[i].s ⟨.slice aA (ey m.rs (i+1) m.rs[i].s).length ae,(ey m.rs (i+1) m.rs[i].s).length,aj,112,11⟩):=by
 refine⟨n,List.nodup_cons.2 ⟨fun q=>((b.1 _).1 q).2 rfl,b.2⟩,fun s f=> ?_,fun s o=> ?_⟩
 ·have c:s≠m.rs[i].s:=fun e=>f (by rw[e];exact List.mem_cons_self ..)
  have a:s∉ec:=fun q=>f (iT _ ((b.1 s).2 ⟨q,c⟩))
  refine⟨?_,by rw[CD d c];exact(h.no s a).2⟩
  unfold gd
  rw[if_neg c]
  exact(h.no s a).1
 ·by_cases e:s=m.rs[i].s
  ·subst e
   exact⟨aA,ae,aj,Cy _ _ _,by unfold gd;rw[if_pos rfl],p⟩
  ·have a:s∈ec:=by
    rcases dX.1 o with q|q
    ·exact absurd q e
    ·exact((b.1 s).1 q).1
   obtain⟨g,j,t,k,l,h3⟩:=h.xr s a
   rw[CD d e]
   exact⟨g,j,t,(Cz e).trans k,by unfold gd;rw[if_neg e];exact l,h3.sub dt r⟩
theorem xu{rs:cU}{cells:List PC}{ay:Nat}{jJ:List Int}:WF rs cells.length ⟨cells,ay,jJ⟩:=⟨a9 _,fun i a=>absurd (Nat.lt_of_le_of_lt a.1 a.2) (Nat.lt_irrefl _)⟩
theorem Ky(ba:Md.Cs ah ak aj)(bb:∀r∈ak.rs,r.eo≤100000)(aL:a6 dU 1 ah az cC)(n:Int):cJ 75 [.agg aj.toArray,az,zI n] [] ah aJ (fun E ts R' X'=>ts=[]∧∃wb,E= .returned (bP wb)∧∀(cells:List PC) (bl:Nat→Nat),dq cells.length wb (hd ak) bl ⟨cells,iC n,cC⟩ R' X'):=by
 obtain⟨ac,al,X,Y,rfl,_,_,a9,bh⟩:=ba
 have bc:=aL
 obtain⟨ae,am,rfl,_⟩:=aL
 have bf:ak.rs.length≤490000000:=a9.2.2.1
 refine eh func75 rfl ntmps75 rfl fun w G ad=> ?_
 refine kM (ld (ow 0 [(26,[.slice ac ak.ds.length al,.slice X ak.rs.length Y])] rfl rfl rfl rfl rfl (Y1 rfl (l0 (lf (kM (ld ?_)))))))
 refine rv rfl ?_
 rintro N bz _ _ rfl
 refine Y2 rfl (xp (Kn rfl rfl) rfl (xp (Ks rfl rfl) rfl (xp (bJ (vs:=[(0,.map (some N)),(1,.slice ae cC.length am),(2,zI ((iC n:Nat):Int))]) (v:= .agg #[.map (some N),.slice ae cC.length am,zI ((iC n:Nat):Int)]) rfl (fun W=>by kernel_rfl)) rfl (ow 1 [(26,[.slice ac ak.ds.length al,.slice X ak.rs.length Y]),(196,[.map (some N),.slice ae cC.length am,zI ((iC n:Nat):Int)])] rfl rfl rfl rfl rfl (Y1 rfl (l0 (lf (kM (kM (ld (Y2 rfl (xp (sP rfl Gq) rfl (Y1 rfl (l0 (lf (wm ?_))))))))))))))))
 refine AQ (ι:=Nat×Wd×(Array MapEntry)×Nat×(BA→Option Vl)×(List BA)×(BA→bU)) (fun(i,C,es,I,f,z,T)=>⟨[(3,.ptr 0 0),(6,.val (.pointer none)),(7,.ptr 1 0),(18,.val (.slice X ak.rs.length Y)),(19,.val (zI (ak.rs.length:Nat))),(20,.val (zI (i:Nat)))],[(26,[.slice ac ak.ds.length al,.slice X ak.rs.length Y]),(196,[.map (some N),.slice ae cC.length am,zI ((iC n:Nat):Int)])],z.map T⟩) (fun(i,C,es,I,f,z,T)=>C) (fun(i,C,es,I,f,z,T)=>⟨aJ.K,aQ aJ.H N (.map es I)⟩) (fun(i,C,es,I,f,z,T)=>i≤ak.rs.length∧Sub ah C∧uo ak i C es f z T) (fun(i,C,es,I,f,z,T)=>ak.rs.length -i) (0,ah,#[],0,fun _=>none,[],fun _=>⟨zS,0,[],112,11⟩) ?_ rfl rfl ⟨rfl,rfl,rfl,rfl,rfl,rfl,trivial⟩ rfl (List.Sublist.refl _) rfl (hP rfl) ?_
 exact⟨b2 _,sR,⟨iw.nil,List.nodup_nil,fun s _=>⟨rfl,Ku _ _⟩,fun s h=>by cases h⟩⟩
 rintro⟨i,C,es,I,f,z,T⟩ ⟨bT,B,t⟩
 show VX _ _ _ ⟨_,_,_⟩ C ⟨aJ.K,aQ aJ.H N (.map es I)⟩
 refine kM (ld (Y1 rfl (l0 (lf (kM ?_)))))
 cases aI:(decide (((i:Nat):Int)<((ak.rs.length:Nat):Int)))
 have a7:i=ak.rs.length:=by have:=of_decide_eq_false aI;omega
 refine AM rfl (AK (AN (AN (AP (lf (kM (ld (Y2 rfl (l0 (lf (AJ ?_)))))))))))
 have a4:∀s,(match f s with|none=>hd ak s=[]|some u=>a6 Rl.Cs 11 C u (hd ak s)):=fun s=>by
  have av:=Kv ak s
  rw[←a7] at av
  by_cases F:s∈z
  ·obtain⟨aM,aO,bZ,-,aR,h3⟩:=t.xr s F
   rw[aR,←av]
   exact⟨aM,aO,rfl,⟨h3.2.2.1,h3.2.2.2.1,dS (xq ak.rs i s) bf,h3.2.2.2.2⟩,cz h3.2.1 h3.1⟩
  ·have ay:=t.no s F
   rw[ay.1,←av]
   exact ay.2
 refine BN (b:=N) (ob:= .map es I) (b0 _ _ _) ?_
 refine nr (bs:=[(26,[.slice ac ak.ds.length al,.slice X ak.rs.length Y])]) rfl rfl ?_
 rintro wb bA _ _ rfl
 exact dm results75 (aT rfl) ⟨rfl,wb,rfl,fun cells bl=>⟨fun i M=>absurd (Nat.lt_of_le_of_lt M.1 M.2) (Nat.lt_irrefl _),fun i j M bV _=>absurd (Nat.lt_of_le_of_lt M.1 M.2) (Nat.lt_irrefl _),fun i M=>absurd (Nat.lt_of_le_of_lt M.1 M.2) (Nat.lt_irrefl _),⟨_,_,b0 _ _ _,⟨N,es,I,f,rfl,b0 _ _ _,t.is,fun s=>⟨a4 s,fun r be=>bb r (List.mem_filter.1 be).1⟩⟩,a6.sub cP bc B⟩,Kr n⟩⟩
 have A:i<ak.rs.length:=by have:=of_decide_eq_true aI;omega
 refine AL rfl (AI (lf (kM (wm (kM (ld ?_))))))
 obtain⟨bB,bY,bD,aP,aK,a8⟩:=a5.get dt bh i A
 cases aP
 have L:=aK
 obtain⟨d,o,g,p,bC,rfl,_,_,_,_,a2⟩:=aK
 obtain⟨a,m,rfl,_⟩:=fo a2
 refine xp (a3 rfl rfl rfl A hk) rfl (xp (cl rfl (fun j u hu=>B _ _ _ (a8 j u hu)) rfl) rfl (ag N2 rfl (aa E2 rfl (l0 (lf ?_)))))
 by_cases J:ak.rs[i].s∈z
 obtain⟨As,ek,ao,aS,an,ax⟩:=t.xr _ J
 have bd:(⟨.slice As (ey ak.rs i ak.rs[i].s).length ek,(ey ak.rs i ak.rs[i].s).length,ao,112,11⟩::(lq z ak.rs[i].s).map T).Perm (z.map T):=by
  rw[←aS]
  exact(CC t.nd J).map T
 refine gi _ bd ?_
 obtain⟨Z,_,bW,bS,_⟩:=ax
 have bX:=xq ak.rs i ak.rs[i].s
 refine dM mixed (fun k=>k==2) bH (fun _ _ h=>by cases h) fun aq=> ?_
 refine da 0 rfl (by kernel_rfl) id (pR 1 rfl (tH rfl) rfl (by kernel_rfl) (by kernel_rfl) (by kernel_rfl) (fun _ _ _ _ h=>h) (da 2 rfl (by kernel_rfl) id (da 4 rfl (by kernel_rfl) id (da 5 rfl (by kernel_rfl) id (da 6 rfl (by kernel_rfl) id (pR 7 rfl (tH rfl) rfl (by kernel_rfl) (by kernel_rfl) (by kernel_rfl) (fun _ _ _ _ h=>h) (da 8 rfl (by kernel_rfl) id (da 10 rfl (by kernel_rfl) id (da 11 rfl (by kernel_rfl) id (da 13 rfl (by kernel_rfl) id (bp [3,9,14] (by kernel_rfl) rfl ?_)))))))))))
 refine dh rfl ?_ ?_
 refine bp [9,14] (by kernel_rfl) rfl ?_
 refine dh rfl ?_ ?_
 refine ww 3 ?_
 rotate_left
 refine jm (vs:=[.agg #[.string ak.rs[i].s,.slice d ak.rs[i].ps.length o,.slice g ak.rs[i].gs.length p,zI (ak.rs[i].b.k),.string ak.rs[i].b.s,zI (ak.rs[i].b.n),.slice a ak.rs[i].b.ys.length m,zI (ak.rs[i].b.l),zI (ak.rs[i].b.c),zI (ak.rs[i].l),zI (ak.rs[i].c)]]) (cs:=[.string ak.rs[i].s,.slice d ak.rs[i].ps.length o,.slice g ak.rs[i].gs.length p,zI (ak.rs[i].b.k),.string ak.rs[i].b.s,zI (ak.rs[i].b.n),.slice a ak.rs[i].b.ys.length m,zI (ak.rs[i].b.l),zI (ak.rs[i].b.c),zI (ak.rs[i].l),zI (ak.rs[i].c)]) rfl hk rfl rfl rfl rfl rfl rfl rfl ?_ ?_
 intro bN br y P
 refine ww 9 ?_
 rotate_left
 exact bt
 refine dh rfl ?_ ?_
 refine bp [3,12,14] (by kernel_rfl) rfl ?_
 refine dh rfl ?_ ?_
 refine ww 3 ?_
 rotate_left
 refine fT rfl (jl (r:= .slice As (ey ak.rs i ak.rs[i].s).length ek) rfl rfl (.inr (b0 _ _ _)) t.is kj (by rw[an];rfl)) rfl ?_ ?_
 refine bp [3,14] (by kernel_rfl) rfl ?_
 refine dh rfl ?_ ?_
 refine ww 7 ?_
 rotate_left
 refine jm (vs:=[.agg #[.string ak.rs[i].s,.slice d ak.rs[i].ps.length o,.slice g ak.rs[i].gs.length p,zI (ak.rs[i].b.k),.string ak.rs[i].b.s,zI (ak.rs[i].b.n),.slice a ak.rs[i].b.ys.length m,zI (ak.rs[i].b.l),zI (ak.rs[i].b.c),zI (ak.rs[i].l),zI (ak.rs[i].c)]]) (cs:=[.string ak.rs[i].s,.slice d ak.rs[i].ps.length o,.slice g ak.rs[i].gs.length p,zI (ak.rs[i].b.k),.string ak.rs[i].b.s,zI (ak.rs[i].b.n),.slice a ak.rs[i].b.ys.length m,zI (ak.rs[i].b.l),zI (ak.rs[i].b.c),zI (ak.rs[i].l),zI (ak.rs[i].c)]) rfl hk rfl rfl rfl rfl rfl rfl rfl ?_ ?_
 intro bQ bw y P
 refine ww 5 ?_
 rotate_left
 exact bt
 refine jm (vs:=[.agg #[.string ak.rs[i].s,.slice d ak.rs[i].ps.length o,.slice g ak.rs[i].gs.length p,zI (ak.rs[i].b.k),.string ak.rs[i].b.s,zI (ak.rs[i].b.n),.slice a ak.rs[i].b.ys.length m,zI (ak.rs[i].b.l),zI (ak.rs[i].b.c),zI (ak.rs[i].l),zI (ak.rs[i].c)]]) (cs:=[.string ak.rs[i].s,.slice d ak.rs[i].ps.length o,.slice g ak.rs[i].gs.length p,zI (ak.rs[i].b.k),.string ak.rs[i].b.s,zI (ak.rs[i].b.n),.slice a ak.rs[i].b.ys.length m,zI (ak.rs[i].b.l),zI (ak.rs[i].b.c),zI (ak.rs[i].l),zI (ak.rs[i].c)]) rfl hk rfl rfl rfl rfl rfl rfl rfl ?_ ?_
 intro bR bx y P
 refine ww 1 ?_
 rotate_left
 exact bt
 refine jm (vs:=[.agg #[.string ak.rs[i].s,.slice d ak.rs[i].ps.length o,.slice g ak.rs[i].gs.length p,zI (ak.rs[i].b.k),.string ak.rs[i].b.s,zI (ak.rs[i].b.n),.slice a ak.rs[i].b.ys.length m,zI (ak.rs[i].b.l),zI (ak.rs[i].b.c),zI (ak.rs[i].l),zI (ak.rs[i].c)]]) (cs:=[.string ak.rs[i].s,.slice d ak.rs[i].ps.length o,.slice g ak.rs[i].gs.length p,zI (ak.rs[i].b.k),.string ak.rs[i].b.s,zI (ak.rs[i].b.n),.slice a ak.rs[i].b.ys.length m,zI (ak.rs[i].b.l),zI (ak.rs[i].b.c),zI (ak.rs[i].l),zI (ak.rs[i].c)]) rfl hk rfl rfl rfl rfl rfl rfl rfl ?_ ?_
 intro bE bi y P
 refine bp [3,9] (by kernel_rfl) rfl ?_
 refine dh rfl ?_ ?_
 refine ww 9 ?_
 rotate_left
 refine dh rfl ?_ ?_
 refine ww 1 ?_
 rotate_left
 exact bt
 exact bt
 have aw:ey ak.rs i ak.rs[i].s=[]:=(t.no _ J).2
 have ax:dL Rl.Cs 11 C none (ey ak.rs i ak.rs[i].s) 0 []:=by rw[aw];exact dL.nil
 obtain⟨Z,_⟩:=ax
 refine dM mixed (fun k=>k==2) bH (fun _ _ h=>by cases h) fun aq=> ?_
 refine da 0 rfl (by kernel_rfl) id (pR 1 rfl (tH rfl) rfl (by kernel_rfl) (by kernel_rfl) (by kernel_rfl) (fun _ _ _ _ h=>h) (da 2 rfl (by kernel_rfl) id (da 4 rfl (by kernel_rfl) id (da 5 rfl (by kernel_rfl) id (da 6 rfl (by kernel_rfl) id (pR 7 rfl (tH rfl) rfl (by kernel_rfl) (by kernel_rfl) (by kernel_rfl) (fun _ _ _ _ h=>h) (da 8 rfl (by kernel_rfl) id (da 10 rfl (by kernel_rfl) id (da 11 rfl (by kernel_rfl) id (da 13 rfl (by kernel_rfl) id (bp [3,9,14] (by kernel_rfl) rfl ?_)))))))))))
 refine dh rfl ?_ ?_
 refine bp [9,14] (by kernel_rfl) rfl ?_
 refine dh rfl ?_ ?_
 refine ww 4 ?_
 rotate_left
 refine jm (vs:=[.agg #[.string ak.rs[i].s,.slice d ak.rs[i].ps.length o,.slice g ak.rs[i].gs.length p,zI (ak.rs[i].b.k),.string ak.rs[i].b.s,zI (ak.rs[i].b.n),.slice a ak.rs[i].b.ys.length m,zI (ak.rs[i].b.l),zI (ak.rs[i].b.c),zI (ak.rs[i].l),zI (ak.rs[i].c)]]) (cs:=[.string ak.rs[i].s,.slice d ak.rs[i].ps.length o,.slice g ak.rs[i].gs.length p,zI (ak.rs[i].b.k),.string ak.rs[i].b.s,zI (ak.rs[i].b.n),.slice a ak.rs[i].b.ys.length m,zI (ak.rs[i].b.l),zI (ak.rs[i].b.c),zI (ak.rs[i].l),zI (ak.rs[i].c)]) rfl hk rfl rfl rfl rfl rfl rfl rfl ?_ ?_
 intro bK bn x O
 refine ww 11 ?_
 rotate_left
 exact bt
 refine dh rfl ?_ ?_
 refine bp [3,12,14] (by kernel_rfl) rfl ?_
 refine dh rfl ?_ ?_
 refine ww 4 ?_
 rotate_left
 refine fT rfl (jl (r:=zS) rfl rfl (.inr (b0 _ _ _)) t.is kj (by rw[(t.no _ J).1];rfl)) rfl ?_ ?_
 refine bp [3,14] (by kernel_rfl) rfl ?_
 refine dh rfl ?_ ?_
 refine ww 8 ?_
 rotate_left
 refine jm (vs:=[.agg #[.string ak.rs[i].s,.slice d ak.rs[i].ps.length o,.slice g ak.rs[i].gs.length p,zI (ak.rs[i].b.k),.string ak.rs[i].b.s,zI (ak.rs[i].b.n),.slice a ak.rs[i].b.ys.length m,zI (ak.rs[i].b.l),zI (ak.rs[i].b.c),zI (ak.rs[i].l),zI (ak.rs[i].c)]]) (cs:=[.string ak.rs[i].s,.slice d ak.rs[i].ps.length o,.slice g ak.rs[i].gs.length p,zI (ak.rs[i].b.k),.string ak.rs[i].b.s,zI (ak.rs[i].b.n),.slice a ak.rs[i].b.ys.length m,zI (ak.rs[i].b.l),zI (ak.rs[i].b.c),zI (ak.rs[i].l),zI (ak.rs[i].c)]) rfl hk rfl rfl rfl rfl rfl rfl rfl ?_ ?_
 intro bL bo x O
 refine ww 6 ?_
 rotate_left
 exact bt
 refine jm (vs:=[.agg #[.string ak.rs[i].s,.slice d ak.rs[i].ps.length o,.slice g ak.rs[i].gs.length p,zI (ak.rs[i].b.k),.string ak.rs[i].b.s,zI (ak.rs[i].b.n),.slice a ak.rs[i].b.ys.length m,zI (ak.rs[i].b.l),zI (ak.rs[i].b.c),zI (ak.rs[i].l),zI (ak.rs[i].c)]]) (cs:=[.string ak.rs[i].s,.slice d ak.rs[i].ps.length o,.slice g ak.rs[i].gs.length p,zI (ak.rs[i].b.k),.string ak.rs[i].b.s,zI (ak.rs[i].b.n),.slice a ak.rs[i].b.ys.length m,zI (ak.rs[i].b.l),zI (ak.rs[i].b.c),zI (ak.rs[i].l),zI (ak.rs[i].c)]) rfl hk rfl rfl rfl rfl rfl rfl rfl ?_ ?_
 intro bM bq x O
 refine ww 2 ?_
 rotate_left
 exact bt
 refine jm (vs:=[.agg #[.string ak.rs[i].s,.slice d ak.rs[i].ps.length o,.slice g ak.rs[i].gs.length p,zI (ak.rs[i].b.k),.string ak.rs[i].b.s,zI (ak.rs[i].b.n),.slice a ak.rs[i].b.ys.length m,zI (ak.rs[i].b.l),zI (ak.rs[i].b.c),zI (ak.rs[i].l),zI (ak.rs[i].c)]]) (cs:=[.string ak.rs[i].s,.slice d ak.rs[i].ps.length o,.slice g ak.rs[i].gs.length p,zI (ak.rs[i].b.k),.string ak.rs[i].b.s,zI (ak.rs[i].b.n),.slice a ak.rs[i].b.ys.length m,zI (ak.rs[i].b.l),zI (ak.rs[i].b.c),zI (ak.rs[i].l),zI (ak.rs[i].c)]) rfl hk rfl rfl rfl rfl rfl rfl rfl ?_ ?_
 intro bO bu x O
 refine bp [3,9] (by kernel_rfl) rfl ?_
 refine dh rfl ?_ ?_
 refine ww 11 ?_
 rotate_left
 refine dh rfl ?_ ?_
 refine ww 2 ?_
 rotate_left
 exact bt
 exact bt
 any_goals
  refine uw 1 ?_
  refine bp [3,12] (by kernel_rfl) rfl ?_
  refine dh rfl ?_ ?_
  refine ww 10 ?_
  rotate_left
  refine fT rfl (jl (r:= .slice As (ey ak.rs i ak.rs[i].s).length ek) rfl rfl (.inr (b0 _ _ _)) t.is kj (by rw[an];rfl)) rfl ?_ ?_
  refine ww 5 ?_
  rotate_left
  exact bt
 any_goals
  refine uw 2 ?_
  refine bp [3,12] (by kernel_rfl) rfl ?_
  refine dh rfl ?_ ?_
  refine ww 13 ?_
  rotate_left
  refine fT rfl (jl (r:=zS) rfl rfl (.inr (b0 _ _ _)) t.is kj (by rw[(t.no _ J).1];rfl)) rfl ?_ ?_
  refine ww 6 ?_
  rotate_left
  exact bt
 any_goals
  refine uw 3 ?_
  refine bp [12,14] (by kernel_rfl) rfl ?_
  refine fT rfl (jl (r:= .slice As (ey ak.rs i ak.rs[i].s).length ek) rfl rfl (.inr (b0 _ _ _)) t.is kj (by rw[an];rfl)) rfl ?_ ?_
  refine ww 7 ?_
  rotate_left
  refine jm (vs:=[.agg #[.string ak.rs[i].s,.slice d ak.rs[i].ps.length o,.slice g ak.rs[i].gs.length p,zI (ak.rs[i].b.k),.string ak.rs[i].b.s,zI (ak.rs[i].b.n),.slice a ak.rs[i].b.ys.length m,zI (ak.rs[i].b.l),zI (ak.rs[i].b.c),zI (ak.rs[i].l),zI (ak.rs[i].c)]]) (cs:=[.string ak.rs[i].s,.slice d ak.rs[i].ps.length o,.slice g ak.rs[i].gs.length p,zI (ak.rs[i].b.k),.string ak.rs[i].b.s,zI (ak.rs[i].b.n),.slice a ak.rs[i].b.ys.length m,zI (ak.rs[i].b.l),zI (ak.rs[i].b.c),zI (ak.rs[i].l),zI (ak.rs[i].c)]) rfl hk rfl rfl rfl rfl rfl rfl rfl ?_ ?_
  intro bF bj y P
  refine ww 10 ?_
  rotate_left
  exact bt
 any_goals
  refine uw 4 ?_
  refine bp [12,14] (by kernel_rfl) rfl ?_
  refine fT rfl (jl (r:=zS) rfl rfl (.inr (b0 _ _ _)) t.is kj (by rw[(t.no _ J).1];rfl)) rfl ?_ ?_
  refine ww 8 ?_
  rotate_left
  refine jm (vs:=[.agg #[.string ak.rs[i].s,.slice d ak.rs[i].ps.length o,.slice g ak.rs[i].gs.length p,zI (ak.rs[i].b.k),.string ak.rs[i].b.s,zI (ak.rs[i].b.n),.slice a ak.rs[i].b.ys.length m,zI (ak.rs[i].b.l),zI (ak.rs[i].b.c),zI (ak.rs[i].l),zI (ak.rs[i].c)]]) (cs:=[.string ak.rs[i].s,.slice d ak.rs[i].ps.length o,.slice g ak.rs[i].gs.length p,zI (ak.rs[i].b.k),.string ak.rs[i].b.s,zI (ak.rs[i].b.n),.slice a ak.rs[i].b.ys.length m,zI (ak.rs[i].b.l),zI (ak.rs[i].b.c),zI (ak.rs[i].l),zI (ak.rs[i].c)]) rfl hk rfl rfl rfl rfl rfl rfl rfl ?_ ?_
  intro bI bm x O
  refine ww 13 ?_
  rotate_left
  exact bt
 any_goals
  refine uw 5 ?_
  refine nA ?_
  refine bp [3,15] (by kernel_rfl) rfl ?_
  refine dh rfl ?_ ?_
  refine ww 16 ?_
  rotate_left
  refine kR (news:=[.string ak.rs[i].s,.slice d ak.rs[i].ps.length o,.slice g ak.rs[i].gs.length p,zI (ak.rs[i].b.k),.string ak.rs[i].b.s,zI (ak.rs[i].b.n),.slice a ak.rs[i].b.ys.length m,zI (ak.rs[i].b.l),zI (ak.rs[i].b.c),zI (ak.rs[i].l),zI (ak.rs[i].c)]) rfl q1 rfl rfl (cd rfl P) (fun h=>by cases h) (fun u hu=>dt.one (dt.sub L (B.trans y)) u hu) (by omega) rfl rfl ?_ ?_
  intro S V ai F aG a0 a1 aH
  have D:(ey ak.rs i ak.rs[i].s).length+1=(ey ak.rs (i+1) ak.rs[i].s).length:=by rw[nB A];simp
  rw[D]
  rw[D] at aG aH
  have ab:dL Rl.Cs 11 ai S (ey ak.rs (i+1) ak.rs[i].s) V (ao++ [.string ak.rs[i].s,.slice d ak.rs[i].ps.length o,.slice g ak.rs[i].gs.length p,zI (ak.rs[i].b.k),.string ak.rs[i].b.s,zI (ak.rs[i].b.n),.slice a ak.rs[i].b.ys.length m,zI (ak.rs[i].b.l),zI (ak.rs[i].b.c),zI (ak.rs[i].l),zI (ak.rs[i].c)]):=⟨by rw[nB A];exact c6 (bg dt (y.trans F) Z) (c4 (dt.sub L (B.trans (y.trans F)))),aH,aG,a0,a1⟩
  refine dd 3 (by kernel_rfl) rfl (bp [16] (by kernel_rfl) rfl (ww 19 ?_))
  rotate_left
  exact bt
 any_goals
  refine uw 6 ?_
  refine Cx 112 11 ?_
  refine bp [3,15] (by kernel_rfl) rfl ?_
  refine dh rfl ?_ ?_
  refine ww 18 ?_
  rotate_left
  refine kR (news:=[.string ak.rs[i].s,.slice d ak.rs[i].ps.length o,.slice g ak.rs[i].gs.length p,zI (ak.rs[i].b.k),.string ak.rs[i].b.s,zI (ak.rs[i].b.n),.slice a ak.rs[i].b.ys.length m,zI (ak.rs[i].b.l),zI (ak.rs[i].b.c),zI (ak.rs[i].l),zI (ak.rs[i].c)]) rfl q1 rfl rfl (cd rfl O) (fun h=>by cases h) (fun u hu=>dt.one (dt.sub L (B.trans x)) u hu) (by omega) rfl rfl ?_ ?_
  intro R U af Q aE aY aZ aF
  have D:0+1=(ey ak.rs (i+1) ak.rs[i].s).length:=by rw[nB A];simp[aw]
  rw[D]
  rw[D] at aE aF
  have ab:dL Rl.Cs 11 af R (ey ak.rs (i+1) ak.rs[i].s) U ([]++ [.string ak.rs[i].s,.slice d ak.rs[i].ps.length o,.slice g ak.rs[i].gs.length p,zI (ak.rs[i].b.k),.string ak.rs[i].b.s,zI (ak.rs[i].b.n),.slice a ak.rs[i].b.ys.length m,zI (ak.rs[i].b.l),zI (ak.rs[i].b.c),zI (ak.rs[i].l),zI (ak.rs[i].c)]):=⟨by rw[nB A];exact c6 (bg dt (x.trans Q) Z) (c4 (dt.sub L (B.trans (x.trans Q)))),aF,aE,aY,aZ⟩
  refine dd 3 (by kernel_rfl) rfl (bp [16] (by kernel_rfl) rfl (ww 20 ?_))
  rotate_left
  exact bt
 any_goals
  refine uw 7 ?_
  refine bp [14] (by kernel_rfl) rfl ?_
  refine jm (vs:=[.agg #[.string ak.rs[i].s,.slice d ak.rs[i].ps.length o,.slice g ak.rs[i].gs.length p,zI (ak.rs[i].b.k),.string ak.rs[i].b.s,zI (ak.rs[i].b.n),.slice a ak.rs[i].b.ys.length m,zI (ak.rs[i].b.l),zI (ak.rs[i].b.c),zI (ak.rs[i].l),zI (ak.rs[i].c)]]) (cs:=[.string ak.rs[i].s,.slice d ak.rs[i].ps.length o,.slice g ak.rs[i].gs.length p,zI (ak.rs[i].b.k),.string ak.rs[i].b.s,zI (ak.rs[i].b.n),.slice a ak.rs[i].b.ys.length m,zI (ak.rs[i].b.l),zI (ak.rs[i].b.c),zI (ak.rs[i].l),zI (ak.rs[i].c)]) rfl hk rfl rfl rfl rfl rfl rfl rfl ?_ ?_
  intro g2 bv y P
  refine ww 15 ?_
  rotate_left
  exact bt
 any_goals
  refine uw 8 ?_
  refine bp [14] (by kernel_rfl) rfl ?_
  refine jm (vs:=[.agg #[.string ak.rs[i].s,.slice d ak.rs[i].ps.length o,.slice g ak.rs[i].gs.length p,zI (ak.rs[i].b.k),.string ak.rs[i].b.s,zI (ak.rs[i].b.n),.slice a ak.rs[i].b.ys.length m,zI (ak.rs[i].b.l),zI (ak.rs[i].b.c),zI (ak.rs[i].l),zI (ak.rs[i].c)]]) (cs:=[.string ak.rs[i].s,.slice d ak.rs[i].ps.length o,.slice g ak.rs[i].gs.length p,zI (ak.rs[i].b.k),.string ak.rs[i].b.s,zI (ak.rs[i].b.n),.slice a ak.rs[i].b.ys.length m,zI (ak.rs[i].b.l),zI (ak.rs[i].b.c),zI (ak.rs[i].l),zI (ak.rs[i].c)]) rfl hk rfl rfl rfl rfl rfl rfl rfl ?_ ?_
  intro bG bk x O
  refine ww 17 ?_
  rotate_left
  exact bt
 any_goals
  refine uw 9 ?_
  refine dd 9 (by kernel_rfl) rfl (bp [12] (by kernel_rfl) rfl (ww 12 ?_))
  rotate_left
 any_goals
  refine uw 10 ?_
  refine bp [12] (by kernel_rfl) rfl (ww 12 ?_)
  rotate_left
 any_goals
  refine uw 11 ?_
  refine dd 9 (by kernel_rfl) rfl (bp [12] (by kernel_rfl) rfl (ww 14 ?_))
  rotate_left
 any_goals
  refine uw 12 ?_
  refine fT rfl (jl (r:= .slice As (ey ak.rs i ak.rs[i].s).length ek) rfl rfl (.inr (b0 _ _ _)) t.is kj (by rw[an];rfl)) rfl ?_ ?_
  refine ww 15 ?_
  rotate_left
  exact bt
 any_goals
  refine uw 13 ?_
  refine bp [12] (by kernel_rfl) rfl (ww 14 ?_)
  rotate_left
 any_goals
  refine uw 14 ?_
  refine fT rfl (jl (r:=zS) rfl rfl (.inr (b0 _ _ _)) t.is kj (by rw[(t.no _ J).1];rfl)) rfl ?_ ?_
  refine ww 17 ?_
  rotate_left
  exact bt
 any_goals
  refine uw 15 ?_
  refine nA ?_
  refine ww 16 ?_
  rotate_left
 any_goals
  refine uw 16 ?_
  refine bp [15] (by kernel_rfl) rfl ?_
  refine kR (news:=[.string ak.rs[i].s,.slice d ak.rs[i].ps.length o,.slice g ak.rs[i].gs.length p,zI (ak.rs[i].b.k),.string ak.rs[i].b.s,zI (ak.rs[i].b.n),.slice a ak.rs[i].b.ys.length m,zI (ak.rs[i].b.l),zI (ak.rs[i].b.c),zI (ak.rs[i].l),zI (ak.rs[i].c)]) rfl q1 rfl rfl (cd rfl P) (fun h=>by cases h) (fun u hu=>dt.one (dt.sub L (B.trans y)) u hu) (by omega) rfl rfl ?_ ?_
  intro S V ai F aA aU aV aB
  have D:(ey ak.rs i ak.rs[i].s).length+1=(ey ak.rs (i+1) ak.rs[i].s).length:=by rw[nB A];simp
  rw[D]
  rw[D] at aA aB
  have ab:dL Rl.Cs 11 ai S (ey ak.rs (i+1) ak.rs[i].s) V (ao++ [.string ak.rs[i].s,.slice d ak.rs[i].ps.length o,.slice g ak.rs[i].gs.length p,zI (ak.rs[i].b.k),.string ak.rs[i].b.s,zI (ak.rs[i].b.n),.slice a ak.rs[i].b.ys.length m,zI (ak.rs[i].b.l),zI (ak.rs[i].b.c),zI (ak.rs[i].l),zI (ak.rs[i].c)]):=⟨by rw[nB A];exact c6 (bg dt (y.trans F) Z) (c4 (dt.sub L (B.trans (y.trans F)))),aB,aA,aU,aV⟩
  refine bp [16] (by kernel_rfl) rfl (ww 19 ?_)
  rotate_left
  exact bt
 any_goals
  refine uw 17 ?_
  refine Cx 112 11 ?_
  refine ww 18 ?_
  rotate_left
 any_goals
  refine uw 18 ?_
  refine bp [15] (by kernel_rfl) rfl ?_
  refine kR (news:=[.string ak.rs[i].s,.slice d ak.rs[i].ps.length o,.slice g ak.rs[i].gs.length p,zI (ak.rs[i].b.k),.string ak.rs[i].b.s,zI (ak.rs[i].b.n),.slice a ak.rs[i].b.ys.length m,zI (ak.rs[i].b.l),zI (ak.rs[i].b.c),zI (ak.rs[i].l),zI (ak.rs[i].c)]) rfl q1 rfl rfl (cd rfl O) (fun h=>by cases h) (fun u hu=>dt.one (dt.sub L (B.trans x)) u hu) (by omega) rfl rfl ?_ ?_
  intro R U af Q aC aW aX aD
  have D:0+1=(ey ak.rs (i+1) ak.rs[i].s).length:=by rw[nB A];simp[aw]
  rw[D]
  rw[D] at aC aD
  have ab:dL Rl.Cs 11 af R (ey ak.rs (i+1) ak.rs[i].s) U ([]++ [.string ak.rs[i].s,.slice d ak.rs[i].ps.length o,.slice g ak.rs[i].gs.length p,zI (ak.rs[i].b.k),.string ak.rs[i].b.s,zI (ak.rs[i].b.n),.slice a ak.rs[i].b.ys.length m,zI (ak.rs[i].b.l),zI (ak.rs[i].b.c),zI (ak.rs[i].l),zI (ak.rs[i].c)]):=⟨by rw[nB A];exact c6 (bg dt (x.trans Q) Z) (c4 (dt.sub L (B.trans (x.trans Q)))),aD,aC,aW,aX⟩
  refine bp [16] (by kernel_rfl) rfl (ww 20 ?_)
  rotate_left
  exact bt
 any_goals
  refine uw 19 ?_
  refine Cw (f:=f) (v:= .slice S (ey ak.rs (i+1) ak.rs[i].s).length V) rfl rfl rfl rfl (b0 _ _ _) t.is kj (fun _ _ h=>by cases h) ?_ bt
  rintro ar ap aN au rfl
  simp only[iM]
  refine du (by kernel_rfl) (AO (lf (ld (xp (kv (c:=((i+1:Nat):Int)) rfl rfl (by omega) (by omega) (by omega)) rfl (Y1 rfl (l0 ?_))))))
  refine wq (i+1,ai,ar,ap,gd f ak.rs[i].s (.slice S (ey ak.rs (i+1) ak.rs[i].s).length V),ak.rs[i].s::(lq z ak.rs[i].s),p7 T ak.rs[i].s ⟨.slice S (ey ak.rs (i+1) ak.rs[i].s).length V,(ey ak.rs (i+1) ak.rs[i].s).length,ao++ [.string ak.rs[i].s,.slice d ak.rs[i].ps.length o,.slice g ak.rs[i].gs.length p,zI (ak.rs[i].b.k),.string ak.rs[i].b.s,zI (ak.rs[i].b.n),.slice a ak.rs[i].b.ys.length m,zI (ak.rs[i].b.l),zI (ak.rs[i].b.c),zI (ak.rs[i].l),zI (ak.rs[i].c)],112,11⟩) ?_ ?_ rfl rfl ⟨rfl,rfl,rfl,rfl,rfl,rfl,trivial⟩ rfl (by rw[CA (by exact fun q=>(CB.1 q).2 rfl)];exact .cons_cons _ (.cons _ (List.Sublist.refl _))) rfl (Nat.le_of_ble_eq_true rfl)
  refine⟨by omega,B.trans (y.trans F),t.step A (y.trans F) ⟨fun s=>CB,Kt t.nd⟩ ab au⟩
  show ak.rs.length -(i+1)<ak.rs.length -i;omega
 any_goals
  refine uw 20 ?_
  refine Cw (f:=f) (v:= .slice R (ey ak.rs (i+1) ak.rs[i].s).length U) rfl rfl rfl rfl (b0 _ _ _) t.is kj (fun _ _ h=>by cases h) ?_ bt
  rintro ar ap aN au rfl
  simp only[iM]
  refine du (by kernel_rfl) (AO (lf (ld (xp (kv (c:=((i+1:Nat):Int)) rfl rfl (by omega) (by omega) (by omega)) rfl (Y1 rfl (l0 ?_))))))
  refine wq (i+1,af,ar,ap,gd f ak.rs[i].s (.slice R (ey ak.rs (i+1) ak.rs[i].s).length U),ak.rs[i].s::z,p7 T ak.rs[i].s ⟨.slice R (ey ak.rs (i+1) ak.rs[i].s).length U,(ey ak.rs (i+1) ak.rs[i].s).length,[]++ [.string ak.rs[i].s,.slice d ak.rs[i].ps.length o,.slice g ak.rs[i].gs.length p,zI (ak.rs[i].b.k),.string ak.rs[i].b.s,zI (ak.rs[i].b.n),.slice a ak.rs[i].b.ys.length m,zI (ak.rs[i].b.l),zI (ak.rs[i].b.c),zI (ak.rs[i].l),zI (ak.rs[i].c)],112,11⟩) ?_ ?_ rfl rfl ⟨rfl,rfl,rfl,rfl,rfl,rfl,trivial⟩ rfl (by rw[CA (by exact J)];exact .cons_cons _ (.cons _ (List.Sublist.refl _))) rfl (Nat.le_of_ble_eq_true rfl)
  refine⟨by omega,B.trans (x.trans Q),t.step A (x.trans Q) ⟨fun s=>⟨fun q=>⟨q,fun e=>J (e▸q)⟩,fun q=>q.1⟩,t.nd⟩ ab au⟩
  show ak.rs.length -(i+1)<ak.rs.length -i;omega
def ht (n:Nat) (zs:List Value):List Value:=(List.range (n*zs.length)).map fun i=>zs[i % zs.length]!
theorem rU(n:Nat)(zs:LV):(ht n zs).length=n*zs.length:=by simp[ht]
def p8 (t e:TypeId) (zs:List Value):Prop:=∃i z,prog.underlying t=some (.slice e)∧prog.info? e=some i∧i.size=zs.length∧i.bytes≤1000∧(∀W,(zeroValue e).run prog W= .ok z W)∧z.cells.toList=zs
theorem run_makeSlice(A:p8 aH ci aj){n:Nat}(r:n≤490000000)(v:0<aj.length)(W:Wd):
 (Instr.makeSlice aH (zI (n:Int)) (zI (n:Int))).run prog W= .ok (.slice (some ⟨W.heap.size,0,none⟩) n n) (W.alloc (.cells (ht n aj).toArray ci (0,0))):=by
 obtain⟨i,z,c,j,h3,l,m,d⟩:=A
 have B:IntKind.i64.wrap (n:Int)=(n:Int):=u6 (by omega) (by omega)
 have D:n*i.bytes≤490000000*1000:=Nat.mul_le_mul r l
 have p:¬((i.bytes:Int)*(n:Int)>2^48):=by
  have:((i.bytes:Int)*(n:Int))=((n*i.bytes:Nat):Int):=by rw[Int.natCast_mul,Int.mul_comm]
  rw[this]
  have:(2:Int)^48=281474976710656:=by decide
  omega
 have w:¬n*i.bytes>roomBytes:=by unfold roomBytes;omega
 have b:(typeInfo ci).run prog W= .ok i W:=by simp[typeInfo,j,Result.andThen]
 have h:(sizeOf ci).run prog W= .ok aj.length W:=by simp[sizeOf,b,h3,Result.andThen]
 have g:∀(mJ:Array Vl),(newRow ci mJ).run prog W= .ok ⟨W.heap.size,0,none⟩ (W.alloc (.cells mJ ci (0,0))):=fun mJ=>by
  simp[newRow,newObj,Sem.run_bind,Result.andThen]
  rfl
 have e:∀(k:Int) (W:Wd),(asIntOf (zI k)).run prog W= .ok (.i64,k) W:=fun _ _=>rfl
 have C:IntKind.i64.wrap 0=0:=by decide
 have q:¬(281474976710656<(i.bytes:Int)*(n:Int)):=p
 unfold Instr.makeSlice
 by_cases a:n=0
 ·subst a
  simp[Sem.run_bind,run_underlying c,Result.andThen,asInt,b,askRoom,h,g,ht,C,e]
  have:∀f:Nat→Vl,Array.map f (Array.range 0)=#[]:=fun f=>by apply Array.ext';simp
  rw[this]
 ·have s:¬(n=0∨aj.length=0):=by omega
  have u:¬((n:Int)<0):=by omega
  have y:z.cells.size=aj.length:=by rw[←d];simp
  simp[Sem.run_bind,run_underlying c,Result.andThen,asInt,b,askRoom,h,g,B,q,w,s,m,e,u,a]
  have t:¬n*aj.length=0:=by
   have:=Nat.mul_pos (Nat.pos_of_ne_zero a) v
   omega
  have o:Array.map (fun x=>z.cells[x % z.cells.size]!) (Array.range (n*aj.length))=(ht n aj).toArray:=by
   apply Array.ext'
   unfold ht
   simp only[Array.toList_map,Array.toList_range,y]
   refine List.map_congr_left fun k _=> ?_
   subst d
   simp
   cases ci:z.cells[k % z.cells.size]?<;>simp[getElem!_def,ci]
  rw[if_neg t,o]
section
variable{C:eF}{ops:Array Oper}{Q:Exit→Act→Wd→Prop}{rest:List Oper}{S:St}{sl:List (Nat×AV)}{bx:List Bx}{rw:List bU}{R R':Wd}{X X':Hx}{d:Nat}{ty:TypeId}{pos:String}{af:Array Edge}{K:Nat→Bool}
theorem rW{x y:Operand}{n:Nat}(l:p8 aH ci aj)(j:0<aj.length)(m:ev ⟨sl,bx,rw⟩ x=some (.val (zI (n:Nat))))(p:ev ⟨sl,bx,rw⟩ y=some (.val (zI (n:Nat))))(i:n≤490000000)(h:Nat.blt d C.N=true)
 (k:∀b X',X.K b=none→X.H b=none→X'=⟨X.K,aQ X.H b (.cells (ht n aj).toArray ci (0,0))⟩→bN C ops Q rest ⟨(d,.val (.slice (some ⟨b,0,none⟩) n n))::sl,bx,rw⟩ R X'):
 bN C ops Q (⟨some d,.makeSlice aH x y,ty,pos,af,none⟩::rest) ⟨sl,bx,rw⟩ R X:=by
 intro ad a W c
 obtain⟨e,f,h3⟩:=c.alloc (.cells (ht n aj).toArray ci (0,0))
 have e1:=c.rel.eval m
 have e2:=c.rel.eval p
 simp only[AV.den] at e1 e2
 refine wpList_plain rfl fun K g=> ?_
 unfold Oper.wp
 have:(execOp a.eval ⟨some d,.makeSlice aH x y,ty,pos,af,none⟩).run prog W= .ok (.value (.slice (some ⟨W.heap.size,0,none⟩) n n)) (W.alloc (.cells (ht n aj).toArray ci (0,0))):=by
  simp only[execOp,e1,e2,Sem.run_bind,run_makeSlice l i j W,Result.andThen_ok,Sem.run_pure]
 rw[this]
 exact g _ _ (k _ _ e f rfl ad _ _ (h3.put (x:= .val (.slice (some ⟨W.heap.size,0,none⟩) n n)) (dn h) (fun k o ci=>by cases ci)))
theorem ck.CE(h:ck C S R X a0 cj ah)(i:X.H ae=some (.cells aj.toArray aH (0,0))):ck C S (add R ae aj) ⟨X.K,gy X.H ae⟩ a0 cj ah:=by
 have f:X.H ae≠none:=by rw[i];simp
 have hh:∀c,gy X.H ae c≠none→c≠ae∧X.H c≠none:=by
  intro c a
  by_cases e:c=ae
  ·rw[e] at a;exact absurd (if_pos rfl) a
  ·rw[oo _ e] at a;exact⟨e,a⟩
 have g:∀c,(X.K c≠none∨gy X.H ae c≠none)→X.K c≠none∨X.H c≠none:=fun c a=>a.imp id fun h=>(hh c h).2
 have n:Sub R (add R ae aj):=fun x o u hu=>by
  rw[hO]
  by_cases e:x=ae
  ·subst e;rw[h.own.b9 x f o] at hu;cases hu
  ·rw[if_neg e];exact hu
 have j:=h.own.h ae _ i
 have b:=h.rel
 refine⟨⟨b.size,b.defers,b.slot,b.lt,⟨b.own.box,b.own.inj,b.own.row,b.own.apart,b.own.rows,fun x o u hu=> ?_⟩,⟨b.cg.os,b.cg.tape,b.cg.output,b.cg.size,b.cg.g6,fun x o u g hu=> ?_,b.cg.sub.trans n⟩,b.fO,b.rowAt,b.nb,b.fP⟩,
  ⟨h.own.k,fun c o a=> ?_,fun c a=> ?_,fun c a=>h.own.box c (g c a),fun c a=>h.own.row c (g c a),fun c a o=> ?_⟩,fun c a=>h.gZ c (hh c a).2,h.iZ,h.sub⟩
 ·rw[hO] at hu
  by_cases e:x=ae
  ·subst e
   rw[if_pos rfl] at hu
   exact⟨pN j hu,fun k l=>h.own.box x (.inr f) k l,fun r m e=>absurd e (h.own.row x (.inr f) r m)⟩
  ·rw[if_neg e] at hu
   exact b.own.b9 x o u hu
 ·rw[hO] at hu
  by_cases e:x=ae
  ·subst e
   rcases h.gZ x f with d|d
   ·omega
   ·exact .inr d
  ·rw[if_neg e] at hu
   exact b.cg.fN x o u g hu
 ·replace a:gy X.H ae c=some o:=a
  have d:=hh c (by rw[a];simp)
  rw[oo _ d.1] at a
  exact h.own.h c o a
 ·show gy X.H ae c=none
  cases e:gy X.H ae c with
  |none=>rfl
  |some o=>
   have d:=hh c (by rw[e];simp)
   exact absurd (h.own.kh c a) d.2
 ·have d:=hh c a
  rw[hO,if_neg d.1]
  exact h.own.b9 c d.2 o
theorem rX{x y:Operand}{b off n:Nat}{cs:LV}(a:LV)(i:ev ⟨sl,bx,rw⟩ x=some (.val (.pointer (some ⟨b,off,none⟩))))(j:ev ⟨sl,bx,rw⟩ y=some (.val az))(e:X.H b=some (.cells cs.toArray ci (0,0)))
 (d:cr aH ca n) (g:az.cells.size=n) (h:off+n≤cs.length) (c:az.cells.toList.all (·.oneCell')=true) (f:cs.take off++az.cells.toList++cs.drop (off+n)=a)
 (k:∀X',X'=⟨X.K,aQ X.H b (.cells a.toArray ci (0,0))⟩→bN C ops Q rest ⟨sl,bx,rw⟩ R X'):bN C ops Q (⟨none,.store aH x y,ty,pos,af,none⟩::rest) ⟨sl,bx,rw⟩ R X:=
 AF (S:=⟨sl,bx,rw⟩) i j e d g h c f (k _ rfl)
theorem Kz(a:Act)(b:aF bk)(c:a.eval rY= .func (.func bk) #[] aj.toArray)(f:c8.map a.eval=bj.toArray)(W:Wd):
 (execOp a.eval ⟨some d,.call {callee:= .value rY,args:=c8,argTypes:=fi},ty,pos,af,none⟩).run prog W= .ok (.enter bk (bj++aj).toArray) W:=by
 have:=j0 b (bj++aj).toArray W
 have e:bj.toArray++aj.toArray=(bj++aj).toArray:=by simp
 simp only[execOp,resolve,Deferred.ofValue,invoke,c,f,Sem.run_bind,Sem.run_pure,Result.andThen_ok,Array.empty_append,e,this]
theorem KA{lb:LV}{ys:LV}(p:cJ bk (ys++lb) [] R X (fun E ts R' X'=>ts=[]∧X'=X∧∃v,E= .returned v∧hF v R'))(i:aF bk)(m:ev ⟨sl,bx,rw⟩ rY=some (.val (.func (.func bk) #[] lb.toArray)))(q:fb ⟨sl,bx,rw⟩ c8 (ys.map .val))(l:Nat.blt d C.N=true)
 (k:∀v R',Sub R R'→hF v R'→bN C ops Q rest ⟨(d,.val v)::sl,bx,rw⟩ R' X):
 bN C ops Q (⟨some d,.call {callee:= .value rY,args:=c8,argTypes:=fi},ty,pos,af,none⟩::rest) ⟨sl,bx,rw⟩ R X:=by
 intro ad a W c
 refine wpList_plain rfl fun K j=> ?_
 unfold Oper.wp
 rw[Kz a i (c.rel.eval m) (c.args q) W,Oper.upon_enter]
 refine(rk X.H bH [] rw p rfl (hp _).symm (fun b t=>rfl) c).mono ?_
 rintro E W' ⟨u,R',X',s,g,r,_,h,-,f⟩
 obtain⟨rfl,rfl,v,rfl,n⟩:=h
 rw[hp] at f
 exact j _ _ (k v R' g n ad _ W' (f.put (x:= .val v) (dn l) (fun k o e=>by cases e)))
theorem KB{x:Operand}(d:ev S x=some (.val az)):bO K S R (.makeFunc (.func bk) #[] #[x]) ty (.val (.func (.func bk) #[] #[az])):=
 bO.of fun ad ac W dst pos af e c f=>by
  have a:=c.eval d
  simp only[AV.den] at a
  have b:(Instr.makeFunc (.func bk) #[] #[az]).run prog W= .ok (.func (.func bk) #[] #[az]) W:=rfl
  simp[execOp,a,AV.den,b]
end
abbrev ma:=iw (Value.int .i64)
theorem xv:∀a b:Int,Value.int .i64 a=Value.int .i64 b→a=b:=fun a b h=>by cases h;rfl
theorem KC(h:ma dw kW):∀x∈dw.toList,MapKept.IsKey (.int .i64) x.key:=fun x b=>by
 obtain⟨k,a,_⟩:=h.get x b
 rw[a]
 exact rfl
theorem CF(h:ma dw kW)(s:Int):
 (Instr.findNow (.int .i64) (zI s) dw.toList 0=some none∧kW s=none)∨∃j e,Instr.findNow (.int .i64) (zI s) dw.toList 0=some (some (j,e.val))∧dw[j]?=some e∧e.key=zI s∧kW s=some e.val:=by
 rcases MapKept.findNow_spec (d:= .int .i64) (k:=zI s) rfl dw.toList 0 (KC h) with⟨b,a⟩|⟨j,e,b,a,h3⟩
 ·refine .inl ⟨b,?_⟩
  cases e:kW s with
  |none=>rfl
  |some v=>
   obtain⟨x,f,c⟩:=h.rn _ _ e
   exact absurd c (a x f)
 ·rw[Array.getElem?_toList] at a
  exact .inr ⟨j,e,by simpa using b,a,h3,h.at xv (Array.mem_toList_iff.2 (Array.mem_of_getElem? a)) h3⟩
theorem KD(f:kc aH (.int .i64) az)(c:ah.heap[ae]?=some (.map dw ao))(h:ma dw kW)(s:Int):
 (Instr.lookup aH (.map (some ae)) (zI s) false).run prog ah= .ok ((kW s).getD az) ah:=by
 obtain⟨i,g,b,a,h3⟩:=f
 rcases CF h s with⟨g1,g2⟩|⟨j,e,g1,_,_,d⟩
 ·simp only[Instr.lookup,Sem.run_bind,run_underlying b,Result.andThen_ok,MapKept.run_getObj_map c,Sem.run_pure,MapKept.run_checkKey a (k:=zI s) rfl,MapKept.run_findKey a g1,h3,g2]
  rfl
 ·simp only[Instr.lookup,Sem.run_bind,run_underlying b,Result.andThen_ok,MapKept.run_getObj_map c,Sem.run_pure,MapKept.run_checkKey a (k:=zI s) rfl,MapKept.run_findKey a g1,h3,d]
  rfl
theorem KE(l:kc aH (.int .i64) az)(b:ah.heap[ae]?=some (.map dw ao))(h:ma dw kW)(s:Int)(v:Vl):
 ∃c i,(Instr.mapUpdate aH (.map (some ae)) (zI s) v).run prog ah= .ok () {ah with heap:=ah.heap.setIfInBounds ae (.map c i)}∧ma c (gd kW s v):=by
 obtain⟨n,m,g,a,_⟩:=l
 rcases CF h s with⟨g1,g2⟩|⟨j,e,g1,g2,f,_⟩
 ·refine⟨dw.push {key:=zI s,val:=v,born:=ao},ao+1,?_,h.push xv g2⟩
  simp only[Instr.mapUpdate,Sem.run_bind,run_underlying g,Result.andThen_ok,MapKept.run_getObj_map b,MapKept.run_checkKey a (k:=zI s) rfl,MapKept.run_findKey a g1,MapKept.run_setObj_map _ b]
 ·refine⟨dw.modify j fun e=>{e with key:=zI s,val:=v},ao,?_,h.modify xv g2 f⟩
  simp only[Instr.mapUpdate,Sem.run_bind,run_underlying g,Result.andThen_ok,MapKept.run_getObj_map b,MapKept.run_checkKey a (k:=zI s) rfl,MapKept.run_findKey a g1,MapKept.run_setObj_map _ b,g2,Option.map_some,Option.getD_some,f,MapKept.run_keyThatStays (d:= .int .i64) (k:=zI s) rfl]
section
variable{C:eF}{ops:Array Oper}{Q:Exit→Act→Wd→Prop}{rest:List Oper}{S:St}{R:Wd}{X:Hx}{ty:TypeId}{pos:String}{af:Array Edge}
theorem KF{x y:Operand}{z r:Vl}(i:ev S x=some (.val (.map (some ae))))(j:ev S y=some (.val (zI bi)))(f:X.at ae (.map dw ao))(h:ma dw kW)(d:kc aH (.int .i64) z)
 (g:(kW bi).getD z=r):gF S R X (.lookup aH x y false) ty (.val r):=
 gF.val fun ad k W dst pos af l c m e=>by
  have a:=c.eval i
  have b:=c.eval j
  simp only[AV.den] at a b
  have:=KD d (e.heap f) h bi
  rw[g] at this
  simp only[execOp,a,b,Sem.run_bind,this,Result.andThen_ok,Sem.run_pure]
theorem KG{rw:List bU}{x y u:Operand}{s:Int}{z v:Vl}(l:ev ⟨bu,aS,rw⟩ x=some (.val (.map (some ae))))(m:ev ⟨bu,aS,rw⟩ y=some (.val (zI s)))(hu:ev ⟨bu,aS,rw⟩ u=some (.val v))(g:X.H ae=some (.map dw ao))(h:ma dw kW)(j:kc aH (.int .i64) z)
 (k:∀a c X',ma a (gd kW s v)→X'=⟨X.K,aQ X.H ae (.map a c)⟩→bN C ops Q rest ⟨bu,aS,rw⟩ R X'):bN C ops Q (⟨none,.mapUpdate aH x y u,ty,pos,af,none⟩::rest) ⟨bu,aS,rw⟩ R X:=by
 intro ad ac W b
 have d:=b.rel.eval l
 have e:=b.rel.eval m
 have h3:=b.rel.eval hu
 simp only[AV.den] at d e h3
 have f:=b.own.h ae _ g
 obtain⟨a,c,g1,g2⟩:=KE j f h s v
 refine wpList_plain rfl fun K i=> ?_
 unfold Oper.wp
 have:(execOp ac.eval ⟨none,.mapUpdate aH x y u,ty,pos,af,none⟩).run prog W= .ok .skip {W with heap:=W.heap.setIfInBounds ae (.map a c)}:=by
  simp only[execOp,d,e,h3,Sem.run_bind,g1,Result.andThen_ok,Sem.run_pure]
 rw[this]
 exact i _ _ (k a c _ g2 rfl ad ac _ (b.ko (by rw[g];simp) (tP f)))
end
theorem CG:kc 222 (.int .i64) (zI 0):=⟨3,3,by kernel_rfl,by kernel_rfl,fun W=>by rfl⟩
theorem KH:cr 222 false 1:=by unfold cr;kernel_rfl
theorem CH:aF 110:=by unfold aF;kernel_rfl
theorem KI:aF 111:=by unfold aF;kernel_rfl
theorem nC(e:dx.results=#[k8,nU])(c:ei bI k8 az)(d:ei bI nU cM)(g:aV.Sublist bI.rows)(f:dZ (.returned (.tuple #[az,cM])) aV ah aJ):DX dj (bodyPost prog dx (hU dj dZ)) .ret bI ah aJ:=
 fun ad a W b=>⟨b.rel.defers,_,by rw[kt,e];simp[c.run b.rel,d.run b.rel],ou b (by simp) g f⟩
theorem kk(e:dx.results=#[k8,nU,u3])(c:ei bI k8 az)(d:ei bI nU cM)(h3:ei bI u3 fp)(g:aV.Sublist bI.rows)(f:dZ (.returned (.tuple #[az,cM,fp])) aV ah aJ):DX dj (bodyPost prog dx (hU dj dZ)) .ret bI ah aJ:=
 fun ad a W b=>⟨b.rel.defers,_,by rw[kt,e];simp[c.run b.rel,d.run b.rel,h3.run b.rel],ou b (by simp) g f⟩
mutual
def kX (m:Int→Int):Ty→Ty
 | .mk k s n ys=>if k=3 then .mk 3 ⟨#[]⟩ (m n) [] else .mk k s n (ib m ys)
def ib (m:Int→Int):List Ty→List Ty
 |[]=> []
 |t::r=>kX m t::ib m r
end
theorem xw(m:Int→Int):∀l:List Ty,ib m l=l.map (kX m)
 |[]=>by rw[ib];rfl
 |t::r=>by rw[ib,xw m r];rfl
theorem CI(m:Int→Int)(s:BA)(n:Int)(ys:List Ty):kX m (.mk 3 s n ys)= .mk 3 ⟨#[]⟩ (m n) []:=by rw[kX,if_pos rfl]
theorem xx(m:Int→Int)(h:bi≠3)(s:BA)(n:Int)(ys:List Ty):kX m (.mk bi s n ys)= .mk bi s n (ib m ys):=by rw[kX,if_neg h]
theorem KJ(m:Int→Int){i:Nat}(h:i<b4.length):ib m (b4.take (i+1))=ib m (b4.take i)++ [kX m b4[i]]:=by
 simp only[xw]
 rw[List.take_succ_eq_append_getElem h,List.map_append]
 rfl
theorem CJ(m:Int→Int)(l:List Ty):(ib m l).length=l.length:=by rw[xw,List.length_map]
theorem KK{xs zs c:LV}{off n:Nat}(h:xs.length=off):(xs++zs).take off++c++(xs++zs).drop (off+n)=(xs++c)++zs.drop n:=by
 subst h
 rw[List.take_left',List.drop_append]
 ·simp
 ·rfl
theorem KL:p8 87 89 [zI 0,.string ⟨#[]⟩,zI 0,zS]:=by
 have h:(prog.info? 89).map (fun i=>(i.size,i.bytes))=some (4,56):=by kernel_rfl
 cases e:prog.info? 89 with
 |none=>rw[e] at h;cases h
 |some i=>
  rw[e] at h
  have a:(i.size,i.bytes)=(4,56):=Option.some.inj h
  refine⟨i,.agg #[zI 0,.string ⟨#[]⟩,zI 0,zS],by kernel_rfl,e,congrArg Prod.fst a,by have h3:i.bytes=56:=congrArg Prod.snd a;omega,fun W=>by rfl,rfl⟩
theorem KM{c:Code}{b:Nat}{T:TypeId}{cs:LV}(d:aJ.H b=some (.cells cs.toArray T (0,0)))(f:Sub ah (add ah b cs)→(∀j u,cs[j]?=some u→(add ah b cs).cell? ⟨b,j,none⟩=some u)→VX dj c dy bI (add ah b cs) ⟨aJ.K,gy aJ.H b⟩):VX dj c dy bI ah aJ:=fun ad a W h=>f (fun x o u hu=>by
 rw[hO]
 by_cases e:x=b
 ·subst e;rw[h.own.b9 x (by rw[d];simp) o] at hu;cases hu
 ·rw[if_neg e];exact hu) (fun j u hu=>by rw[hO,if_pos rfl];exact hu) ad a W (h.CE d)
def xy (X:Hx) (b:Nat) (f:Int→Option Int):Prop:=∃a es c,X.K b=some (.cells [.map (some a)].toArray 222 (0,0))∧X.K a=some (.map es c)∧ma es (fun n=>(f n).map (Value.int .i64))
def xz (N:Nat):Prop:=∀{R:World} {X:Hx} {t:Ty} {b:List Value} {a:Nat} {f:Int→Option Int},Ty.Cs R t b→t.size≤N→xy X a f→
 cJ 110 [.agg b.toArray,.func (.func 111) #[] [bP a].toArray] [] R X (fun E ts R' X'=>ts=[]∧X'=X∧∃v,E= .returned v∧∃c,v= .agg c.toArray∧Ty.Cs R' (kX (fun n=>(f n).getD 0) t) c)
theorem KN(a:xy aJ ae rZ)(n:Int):cJ 111 [zI n,bP ae] [] ah aJ (fun E ts R' X'=>ts=[]∧X'=aJ∧∃v,E= .returned v∧(v= .tuple #[.agg #[zI 3,.string ⟨#[]⟩,zI ((rZ n).getD 0),zS],.bool true]∧R'=ah)):=by
 obtain⟨e,es,f,b,d,c⟩:=a
 refine eh func111 rfl ntmps111 rfl fun w G ad=> ?_
 refine cG 8 rfl (bz (bw (cs:=[.map (some e)]) rfl (.inl (b)) KH rfl) rfl (an 1 rfl (bz (KF (r:=zI ((rZ n).getD 0)) rfl rfl (.inl d) c CG (by cases rZ n<;>rfl)) rfl (xp (bJ (vs:=[(0,zI 3),(2,zI ((rZ n).getD 0))]) (v:= .agg #[zI 3,.string ⟨#[]⟩,zI ((rZ n).getD 0),zS]) rfl (fun W=>by kernel_rfl)) rfl (an 5 rfl ?_)))))
 exact nC results111 (aK rfl rfl iB) (aT rfl) (eH _) ⟨rfl,rfl,_,rfl,rfl,rfl⟩
theorem KO(af:∀y,y<ae→xz y):xz ae:=by
 intro R X t aO Y f ar aq B
 obtain⟨k,m,n,ys⟩:=t
 obtain⟨aC,aN,rfl,F,l⟩:=ar
 replace l:=a8.1 l
 have L:ys.length≤490000000:=F.2.2.1
 rw[Ty.size_mk] at aq
 refine eh func110 rfl ntmps110 rfl fun w G ad=> ?_
 refine cG 14 rfl ?_
 cases C:(k==3)
 have g:=cc C
 refine aE 12 rfl ?_
 cases ah:(((ys.length:Nat):Int)==0)
 refine aE 8 rfl ?_
 refine rW (n:=ys.length) KL (by decide) rfl rfl L rfl ?_
 rintro b aH _ ac rfl
 refine an 13 rfl ?_
 refine eA (ι:=Nat×Wd×LV×LV) [1,2,4,7,32,33] 2 rfl (fun(i,a,xs,zs)=>(⟨[(34,.val (zI (i:Nat)))],[],[]⟩,a,⟨X.K,aQ X.H b (.cells (xs++zs).toArray 89 (0,0))⟩,i≤ys.length∧Sub R a∧aL Ty.Cs a (ib (fun n=>(f n).getD 0) (ys.take i)) xs∧zs.length=(ys.length -i)*4,ys.length -i)) (0,R,[],ht ys.length [zI 0,.string ⟨#[]⟩,zI 0,zS]) rfl rfl rfl [] rfl ?_ ?_
 exact⟨Nat.zero_le _,sR,by rw[List.take_zero,ib];rfl,by rw[rU];rfl⟩
 rintro⟨i,a,xs,zs⟩ ⟨ao,r,d,v⟩
 show VX _ _ _ ⟨_,_,_⟩ a ⟨X.K,aQ X.H b (.cells (xs++zs).toArray 89 (0,0))⟩
 have J:xs.length=i*4:=by rw[aL.len a2 d,CJ,List.length_take,Nat.min_eq_left ao]
 refine aE 6 rfl ?_
 cases D:(decide (((i:Nat):Int)<((ys.length:Nat):Int)))
 have al:i=ys.length:=by have:=of_decide_eq_false D;omega
 refine aE 7 rfl ?_
 have aw:zs=[]:=List.length_eq_zero_iff.1 (by rw[v];omega)
 subst aw
 rw[List.append_nil]
 have E:aL Ty.Cs a (ib (fun n=>(f n).getD 0) ys) xs:=by rw[al,List.take_length] at d;exact d
 refine KM (b:=b) (T:=89) (cs:=xs) (b0 _ _ _) fun ag ap=> ?_
 simp only[j8 _ _ ac]
 have q:=CJ (fun n=>(f n).getD 0) ys
 have ak:Ty.Cs (add a b xs) (.mk k m n (ib (fun n=>(f n).getD 0) ys)) [zI k,.string m,zI n,.slice (some ⟨b,0,none⟩) ys.length ys.length]:=by
  have aa:cF (some ⟨b,0,none⟩) (ib (fun n=>(f n).getD 0) ys).length ys.length:=⟨by rw[q];exact Nat.le_refl _,by omega,by rw[q];exact L,fun h=>by cases h⟩
  have ab:a5 Ty.Cs 4 (add a b xs) (some ⟨b,0,none⟩) (ib (fun n=>(f n).getD 0) ys):=cz (cd (aL.len a2 E) ap) (bg a2 ag E)
  have:=aP (k:=k) (s:=m) (n:=n) aa ab
  rw[q] at this
  exact this
 refine aE 13 rfl ?_
 exact dm results110 (aK rfl rfl iB) ⟨rfl,rfl,_,rfl,_,rfl,by rw[xx _ g];exact ak⟩
 have c:i<ys.length:=by have:=of_decide_eq_true D;omega
 refine aE 8 rfl ?_
 obtain⟨aM,aU,aS,Z,p,am⟩:=a5.get a2 l i c
 cases Z
 have aj:=p
 obtain⟨⟨ax,az,ay,aB⟩,av⟩:∃z,z=ys[i]:=⟨_,rfl⟩
 rw[←av] at p
 obtain⟨U,W,rfl,_⟩:=p
 refine xp (a3 (i:=i) rfl rfl rfl c jc) rfl (xp (jY (cs:=[zI ax,.string az,zI ay,.slice U aB.length W]) rfl iB (fun j u hu=>r _ _ _ (am j u hu))) rfl (an 10 rfl ?_))
 refine dP (af ys[i].size (by have:=jV c;omega) (Ty.Cs.sub aj r) (a9 _) B) CH rfl rfl ?_ ?_
 rintro aW aA V aG I -⟨rfl,rfl,_,e,aR,rfl,o⟩
 cases e
 obtain⟨⟨N,Q,O,S⟩,M⟩:∃z,z=kX (fun n=>(f n).getD 0) ys[i]:=⟨_,rfl⟩
 rw[←M] at o
 have ai:=o
 obtain⟨x,A,rfl,_⟩:=ai
 refine xp (a3 (i:=i) rfl rfl rfl c jc) rfl ?_
 refine rX (cs:=xs++zs) ((xs++ [zI N,.string Q,zI O,.slice x S.length A])++zs.drop 4) rfl rfl (b0 _ _ _) iB rfl (by rw[List.length_append,J,v];omega) rfl (KK (by rw[J];omega)) ?_
 rintro aI rfl
 simp only[iM]
 refine an 4 rfl (xp (bA rfl rfl (by omega)) rfl (an 2 rfl ?_))
 refine dI (i+1,V,xs++ [zI N,.string Q,zI O,.slice x S.length A],zs.drop 4) rfl rfl rfl [] rfl ?_ ?_
 refine⟨by omega,r.trans I,?_,by rw[List.length_drop,v];omega⟩
 rw[KJ _ c,←M]
 exact c6 (bg a2 I d) (c4 o)
 show ys.length -(i+1)<ys.length -i;omega
 rintro ch aA aF aJ _ _ ⟨_,_,_,e,_⟩
 cases e
 have au:ys=[]:=by simpa using ah
 refine aE 9 rfl ?_
 subst au
 exact dm results110 (aK rfl rfl iB) ⟨rfl,rfl,_,rfl,_,rfl,by rw[xx _ g,ib];exact aP (k:=k) (s:=m) (n:=n) F l⟩
 have g:=cb C
 refine aE 6 rfl ?_
 refine KA (lb:=[bP Y]) (ys:=[zI n]) (KN B n) KI rfl rfl rfl ?_
 rintro aV aD aT ⟨rfl,rfl⟩
 refine an 22 rfl ?_
 subst g
 exact dm results110 (aK rfl rfl iB) ⟨rfl,rfl,_,rfl,_,rfl,by rw[CI];exact aP (k:=3) (s:=(⟨#[]⟩:BA)) (n:=(f n).getD 0) eg (ew (P:=Ty.Cs) (size:=4) _)⟩
theorem KP(N:Nat):xz N:=by
 induction N using Nat.strongRecOn with
 |ind N a=>exact KO a
theorem r0:cr 91 true 5:=by unfold cr;kernel_rfl
theorem KQ:aF 94:=by unfold aF;kernel_rfl
theorem KR:aF 95:=by unfold aF;kernel_rfl
theorem KS:aF 97:=by unfold aF;kernel_rfl
mutual
def iD:Ty→List Ty
 | .mk k s n ys=> .mk k s n ys::ju ys
def ju:List Ty→List Ty
 |[]=> []
 |t::r=>iD t++ju r
end
def kl (acc:List Int) (t:Ty):List Int:=if t.k=3∧t.n∉acc then acc++ [t.n] else acc
def varsOf (t:Ty):List Int:=(iD t).foldl kl []
def p9 (t:Ty):Int→Option Int:=fun n=>((varsOf t).idxOf? n).map fun i:Nat=>(i:Int)
def jR (t:Ty):Ty:=kX (fun n=>(p9 t n).getD 0) t
def g3 (t:Ty):Prop:=∀u∈iD t,u.k=3→0≤u.n∧u.n<1000
theorem xA{u:Ty}:∀{l:List Ty},u∈ju l↔∃t∈l,u∈iD t
 |[]=>by simp[ju]
 |t::r=>by rw[ju,List.mem_append,xA (l:=r)];simp
theorem g3.mk{k:Int}{s:BA}{n:Int}{ys:List Ty}(h:k=3→0≤n∧n<1000)(b:∀t∈ys,g3 t):g3 (.mk k s n ys):=by
 intro u hu
 rw[iD] at hu
 rcases dX.1 hu with rfl|hu
 ·exact h
 ·obtain⟨t,a,hu⟩:=xA.1 hu
  exact b t a u hu
theorem xB{rs:cU}:∀{g c:Nat} {l:List Nat} {room:Nat} {st a1:PS} {x:Ty×List Nat×Nat},(aB rs g).read c l room st=some (.ok (x,a1))→l.length+room≤1000→g3 x.1
 |0,c,l,room,st,a1,x,h,j=>by cases h
 |g+1,c,l,room,st,a1,x,h,j=>by
  have p:∀(q:List Nat) {l:List Nat} {room:Nat} {st a1:PS} {x:List Ty×List Nat×Nat},reads (aB rs g) q l room st=some (.ok (x,a1))→l.length+room≤1000→∀t∈x.1,g3 t:=by
   intro q
   induction q with
   |nil=>
    intro l room st a1 x h _
    obtain⟨rfl,rfl⟩:=dG h
    intro t a
    cases a
   |cons y r u=>
    intro l room st a1 x h j
    replace h:=cp h
    obtain⟨v,b6,d,h⟩:=h
    replace h:=cp h
    obtain⟨w,dD,f,h⟩:=h
    obtain⟨rfl,rfl⟩:=dG h
    have A:=(xi d).2
    intro t a
    rcases dX.1 a with rfl|a
    ·exact xB d j
    ·exact u f (by omega) t a
  replace h:iP (aB rs g) c l room st=some (.ok (x,a1)):=h
  have bH:∀{k:Int} {s:BA} {n:Int},k≠3→g3 (.mk k s n []):=fun o=>g3.mk (fun e=>absurd e o) (fun t a=>by cases a)
  cases room with
  |zero=>
   obtain⟨rfl,rfl⟩:=dG h
   exact bH (by decide)
  |succ room=>
   replace h:=cp h
   obtain⟨c1,b6,d,h⟩:=h
   replace h:=cp h
   obtain⟨y,dD,f,h⟩:=h
   obtain⟨B,rfl⟩:=jL f
   revert h
   show dW _ _ _ _ _
   split<;>intro h
   ·obtain⟨rfl,rfl⟩:=dG h
    exact bH (by decide)
   ·obtain⟨rfl,rfl⟩:=dG h
    exact bH (by decide)
   ·replace h:=cp h
    obtain⟨b,C,h3,h⟩:=h
    obtain⟨rfl,rfl⟩:=dG h
    exact g3.mk (fun e=>absurd e (by decide)) (p _ h3 (by omega))
   ·revert h
    show dW _ _ _ _ _
    split<;>intro h
    ·rename_i i m
     obtain⟨rfl,rfl⟩:=dG h
     rw[List.idxOf?,List.findIdx?_eq_some_iff_getElem] at m
     obtain⟨z,_⟩:=m
     exact g3.mk (fun _=>⟨by omega,by omega⟩) (fun t a=>by cases a)
    ·obtain⟨rfl,rfl⟩:=dG h
     exact g3.mk (fun _=>⟨by omega,by omega⟩) (fun t a=>by cases a)
theorem KT{c:Nat}(h:aG (fun g=>mI (aB aD g) gI c) ap (.ok (bC,aW))):g3 bC:=jO h fun g a=>by
 replace a:=cp a
 obtain⟨s,b6,_,a⟩:=a
 replace a:=cp a
 obtain⟨x,dD,b,a⟩:=a
 obtain⟨rfl,rfl⟩:=dG a
 exact xB b (by simp)
def hv (f:cT) (γ:Nat→M Unit) (e:Ex):M Ty:=(later e Env.nil).bind fun c=>(mI f γ c).bind fun t=>M.ret (jR t)
def fw (R:World) (t:Ty) (c:List Value):Prop:=∃A cap a,c= .slice A 0 cap::a∧cap≤9223372036854775807∧(A=none→cap=0)∧Ty.Cs R t a
def ic (X:Hx) (P:Value→World→Prop):ka:=fun E ts R' X'=>ts=[]∧X'=X∧∃v,E= .returned v∧P v R'
def qa:Prop:=∀{R:World} {X:Hx} {v:Value} {t:Ty},a6 Ty.Cs 4 R v [t]→g3 t→cJ 97 [v] [] R X (ic X fun u R'=>a6 Ty.Cs 4 R' u [jR t])
def KU (m:Nat→M Ty) (st:PS):ka:=fun E ts R' X'=>
 ts=[]∧∃r,aG m st r∧match r with
  | .ok (t,_)=>∃a,fw R' t a∧E= .returned (.agg a.toArray)
  | .error t=>E= .panicked (oy t)
theorem KV(b:Ex.Cs ah aM aj)(c:aM.k≠8):cJ 94 [.agg aj.toArray] [] ah aJ (fun E ts R' X'=>ts=[]∧R'=ah∧X'=aJ∧E= .returned (.tuple #[zS,.agg aj.toArray])):=by
 obtain⟨d,e,rfl,_⟩:=fo b
 refine eh func94 rfl ntmps94 rfl fun w G ad=> ?_
 refine cG 14 rfl ?_
 refine eA (ι:=Nat) [1,2,3,4] 2 rfl (fun(i)=>(⟨[],[],[]⟩,ah,aJ,i=0,0)) (0) rfl rfl rfl [] rfl ?_ ?_
 exact rfl
 rintro i _
 show VX _ _ _ ⟨_,_,_⟩ ah aJ
 refine aE 7 rfl ?_
 cases a:(aM.k==8)
 refine an 14 rfl ?_
 refine dM mixed (fun k=>k==0) bH (fun _ _ h=>by cases h) fun aq=> ?_
 refine bm [0,1,2,1003] rfl (by kernel_rfl) id (du (by kernel_rfl) (br 2 rfl ?_))
 exact nC results94 (aT rfl) (aK rfl rfl cY) (eH _) ⟨rfl,rfl,rfl,rfl⟩
 exact absurd (by simpa using a) c
theorem KW{d wb:Nat}(a1:Gh aD d gI)(ay:qa)(ai:WF aD d ap)(h:dq d wb aD a0 ap ah aJ)(Y:Ex.Cs ah aM aj)(aS:aM.k≠8)(aY:aM.size≤100000):
 cJ 77 [bP wb,.agg aj.toArray] [] ah aJ (KU (fun g=>hv (aB aD g) gI aM) ap):=by
 have Z:=Y
 obtain⟨N,U,rfl,_⟩:=fo Y
 refine eh func77 rfl ntmps77 rfl fun w G ad=> ?_
 refine cG 9 rfl ?_
 refine dP (KV Z aS) KQ rfl rfl ?_ ?_
 rintro bx e O bc - -⟨rfl,B,C,aM⟩
 cases aM
 replace B:=B.symm
 subst B
 replace C:=C.symm
 subst C
 refine an 10 rfl ?_
 refine rv rfl ?_
 rintro f bf aA az rfl
 refine an 18 rfl ?_
 refine eA (ι:=Nat) [0,3,4,6,7,8,9,23,24,25] 4 rfl (fun(i)=>(⟨[],[],[]⟩,ah,⟨aJ.K,aQ aJ.H f (.map #[] 0)⟩,i=0,0)) (0) rfl rfl rfl [] rfl ?_ ?_
 exact rfl
 rintro i _
 show VX _ _ _ ⟨_,_,_⟩ ah ⟨aJ.K,aQ aJ.H f (.map #[] 0)⟩
 refine aE 13 rfl ?_
 refine uh (b:=f) (ob:= .map #[] 0) (b0 _ _ _) ?_
 intro _
 rw[j8 _ _ az]
 have aV:dq d wb aD a0 ap ah ⟨aQ aJ.K f (.map #[] 0),aJ.H⟩:=h.mono sR (B7 aA)
 have aN:ia (aQ aJ.K f (.map #[] 0)) a0 (.map (some f)) Env.nil:=⟨f,#[],0,rfl,b0 _ _ _,iw.nil⟩
 have ac:ed d ap Env.nil:=ed.nil
 refine aE 4 rfl ?_
 refine dP (mF ai aV Z aY aN ac) mG rfl rfl ?_ ?_
 rintro bz e a9 bd _ _ ⟨rfl,r,J,a⟩
 rcases r with t|⟨bj,bq⟩
 cases a
 obtain⟨bg,v,aU,_,aM,aZ⟩:=a
 cases aM
 subst aZ
 have aa:=hV ai ac (cR J)
 refine xa (bs:=[(31,[zI aM.k,.string aM.s,zI aM.n,.slice N aM.ys.length U,zI aM.l,zI aM.c]),(91,[zS,zI 0,.string ⟨#[]⟩,zI 0,zS]),(31,[zI aM.k,.string aM.s,zI aM.n,.slice N aM.ys.length U,zI aM.l,zI aM.c])]) rfl rfl ?_
 rintro lb au -aT rfl
 refine pQ 202 1 ?_
 refine Cm (rr:=[]) (Km a1 aa.1.wf aU aT aa.2) KR rfl rfl rfl ?_ ?_
 rintro bC e P R _ _ ⟨r,ae,a⟩
 rcases r with t|⟨⟨p,x,q,y⟩,a4⟩
 cases a
 obtain⟨bh,bl,_,E,aM⟩:=a
 cases aM
 have aI:=E
 obtain⟨ar,aw,rfl,_⟩:=aI
 refine A1 [] (eH _) ?_
 refine an 18 rfl ?_
 refine eA (ι:=Nat) [0,3,4,6,8,13,14,44,45,46] 4 rfl (fun(i)=>(⟨[],[],[]⟩,P,R,i=0,0)) (0) rfl rfl rfl [] rfl ?_ ?_
 exact rfl
 rintro i _
 show VX _ _ _ ⟨_,_,_⟩ P R
 refine aE 16 rfl ?_
 refine fc jc rfl ?_
 intro bo a8 ag aO
 refine pQ 89 4 ?_
 refine jH (news:=[zI p,.string x,zI q,.slice ar y.length aw]) rS rfl rfl (cd rfl aO) (fun h=>by cases h) (fun u hu=>a2.one (Ty.Cs.sub E ag) u hu) (by decide) rfl rfl ?_
 intro L V O aW aC aF aG aH
 have hT:a6 Ty.Cs 4 O (.slice L (0+1) V) [(.mk p x q y:Ty)]:=⟨L,V,rfl,⟨aC,aF,by simp,aG⟩,a5.of aH (aL.single (Ty.Cs.sub E (ag.trans aW)))⟩
 refine dP (ay hT (KT ae)) KS rfl rfl ?_ ?_
 rintro bA e ba be _ -⟨rfl,D,bw,aM,a7,av,rfl,aR,af⟩
 cases aM
 replace D:=D.symm
 subst D
 obtain⟨As,A,aX,ab,-⟩:=a6.take (m:=av) a2 aR af (b2 _) (.inl rfl)
 obtain⟨bi,bp,bn,ax,o,aP⟩:=a5.get a2 af 0 (by simp)
 cases ax
 have F:=o
 rw[List.getElem_cons_zero] at o F
 obtain⟨⟨ak,am,al,ao⟩,X⟩:∃z,z=jR (.mk p x q y:Ty):=⟨_,rfl⟩
 rw[←X] at o F
 obtain⟨M,T,rfl,_⟩:=o
 refine an 4 rfl ?_
 refine dM mixed (fun k=>false) bH (fun _ _ h=>by cases h) fun aq=> ?_
 refine bm [0,1,2] rfl (by kernel_rfl) id (xt 3 rfl (pA (i:=0) rfl rfl (b2 _) jc aX) rfl (by kernel_rfl) id (bm [4,5,6] rfl (by kernel_rfl) id (xt 7 rfl (a3 (i:=0) rfl rfl rfl (Nat.succ_pos _) jc) rfl (by kernel_rfl) id (xt 8 rfl (cl rfl (fun j u hu=>aP j u hu) rfl) rfl (by kernel_rfl) id (xt 9 rfl (bJ (vs:=[(0,.slice As 0 A),(1,.agg #[zI ak,.string am,zI al,.slice M ao.length T])]) (v:= .agg #[.slice As 0 A,zI ak,.string am,zI al,.slice M ao.length T]) rfl (fun W=>by kernel_rfl)) rfl (by kernel_rfl) id (bm [1010] rfl (by kernel_rfl) id (du (by kernel_rfl) (br 2 rfl ?_))))))))
 exact dm results77 (aK rfl rfl r0) ⟨rfl,.ok (jR (.mk p x q y:Ty),a4),bB (m:=fun _=>later aM Env.nil) (b8 (cR J)) (bB ae fD),_,⟨As,A,_,rfl,ab.2.1,ab.2.2.2,by rw[←X];exact F⟩,rfl⟩
 rintro ch e Q S _ _ ⟨_,_,_,aM,_⟩
 cases aM
 rintro ch e Q S _ _ ⟨r,I,a⟩
 rcases r with t|⟨bv,bu⟩
 cases a
 refine br 1 rfl ?_
 exact cL ⟨rfl,.error t,bB (m:=fun _=>later aM Env.nil) (b8 (cR J)) (ej I),rfl⟩
 obtain⟨_,_,_,_,aM⟩:=a
 cases aM
 rintro ch e bb au _ _ ⟨rfl,r,I,a⟩
 rcases r with t|⟨bk,bt⟩
 cases a
 refine br 1 rfl ?_
 exact(mH (cR I)).elim
 obtain⟨_,_,_,_,aM,_⟩:=a
 cases aM
 rintro ch e Q S _ _ ⟨_,_,_,aM⟩
 cases aM
def wD (ds:List Deferred) (a:Act):Act:={a with defers:=ds}
theorem xC(ds:List Deferred)(a:Act):(wD ds a).eval=a.eval:=rfl
theorem CK(ds:List Deferred)(a:Act)(d:Option Nat)(v:Vl):(wD ds a).put d v=wD ds (a.put d v):=by
 unfold wD Act.put
 cases d<;>rfl
def r4 (C:eF) (ds:List Deferred) (c:Code) (Q:Exit→Act→World→Prop) (S:St) (R:World) (X:Hx):Prop:=∀ad a W,ck C S R X ad a W→c.wp prog Q (wD ds a) W
def nD (C:eF) (ds:List Deferred) (ops:Array Oper) (Q:Exit→Act→World→Prop) (l:List Oper) (S:St) (R:World) (X:Hx):Prop:=∀ad a W,ck C S R X ad a W→wpList prog ops Q l (wD ds a) W
def nE (C:eF) (ds:List Deferred) (Q:Exit→Act→World→Prop) (e:Exit) (S:St) (R:World) (X:Hx):Prop:=∀ad a W,ck C S R X ad a W→Q e (wD ds a) W
section
variable{C:eF}{ds:List Deferred}{ops:Array Oper}{Q:Exit→Act→Wd→Prop}{rest:List Oper}{S:St}{sl:List (Nat×AV)}{bx:List Bx}{rw:List bU}{R R':Wd}{X X':Hx}{d:Nat}{ty:TypeId}{pos:String}{af:Array Edge}{K:Nat→Bool}
theorem KX(h:nD C ds gb.toArray Q gb S R X):r4 C ds (.region ae gb.toArray false) Q S R X:=fun ad a W b=>wp_region_lit (h ad a W b)
theorem CL(h:bO gk ⟨sl,bx,rw⟩ R cx ty cy)(f:Nat.blt d C.N=true)(k:nD C ds ops Q rest ⟨(d,cy)::sl,bx,rw⟩ R X):nD C ds ops Q (⟨some d,cx,ty,pos,af,none⟩::rest) ⟨sl,bx,rw⟩ R X:=by
 intro ad a W b
 refine wpList_plain rfl fun K e=> ?_
 unfold Oper.wp
 have c:gF ⟨sl,bx,rw⟩ R X cx ty cy:=gF.of h
 rw[xC,c.2 ad a W _ _ _ _ b.rel.slot (b.rel.nS _) b.has]
 refine e _ _ ?_
 show wpList prog ops Q rest ((wD ds a).put (some d) (cy.den ad)) W
 rw[CK]
 exact k ad _ W (b.put (dn f) (c.lt b.rel))
theorem KY(h:nE C ds Q .normal S R X):nD C ds ops Q [] S R X:=fun ad a W b=>h ad a W b
theorem xD{x y:Operand}{b off n:Nat}{cs:LV}(d:LV)(p:ev ⟨sl,bx,rw⟩ x=some (.val (.pointer (some ⟨b,off,none⟩))))(q:ev ⟨sl,bx,rw⟩ y=some (.val az))(f:X.H b=some (.cells cs.toArray ci (0,0)))
 (k:cr aH ca n) (m:az.cells.size=n) (o:Nat.ble (off+n) cs.length=true) (i:az.cells.toList.all (·.oneCell')=true) (l:cs.take off++az.cells.toList++cs.drop (off+n)=d)
 (r:∀X',X'=⟨X.K,aQ X.H b (.cells d.toArray ci (0,0))⟩→nD C ds ops Q rest ⟨sl,bx,rw⟩ R X'):nD C ds ops Q (⟨none,.store aH x y,ty,pos,af,none⟩::rest) ⟨sl,bx,rw⟩ R X:=by
 intro ad a W c
 have e1:=c.rel.eval p
 have e2:=c.rel.eval q
 simp only[AV.den] at e1 e2
 have e:=c.own.h b _ f
 refine wpList_plain rfl fun K j=> ?_
 unfold Oper.wp
 have g:=wj e k m (hP o) i
 have:(execOp a.eval ⟨none,.store aH x y,ty,pos,af,none⟩).run prog W= .ok .skip (W.setRow b d.toArray):=by
  rw[l] at g
  simp only[execOp,e1,e2,Sem.run_bind,g,Result.andThen_ok,Sem.run_pure]
 rw[xC,this]
 exact j _ _ (r _ rfl ad a _ (c.ko (by rw[f];simp) (sG e)))
theorem KZ{Hc Hf:Hp}(r:cJ bk aj [] R ⟨X.K,Hc⟩ dZ)(l:aF bk)(s:fb ⟨sl,bx,rw⟩ c8 (aj.map .val))(n:X.H=dH Hc Hf)(q:∀b,Hc b≠none→Hf b=none)(p:Nat.blt d C.N=true)
 (k:∀v c R' X',Sub R R'→(∀b,X'.H b≠none→Hf b=none)→dZ (.returned v) c R' X'→nD C ds ops Q rest ⟨(d,.val v)::sl,bx,c++rw⟩ R' ⟨X'.K,dH X'.H Hf⟩)
 (t:∀ch c R' X',Sub R R'→(∀b,X'.H b≠none→Hf b=none)→dZ (.panicked ch) c R' X'→nE C ds Q (.panic ch) ⟨sl,bx,c++rw⟩ R' ⟨X'.K,dH X'.H Hf⟩):
 nD C ds ops Q (⟨some d,.call {callee:= .value (.func bk),args:=c8,argTypes:=fi},ty,pos,af,none⟩::rest) ⟨sl,bx,rw⟩ R X:=by
 intro ad a W i
 refine wpList_plain rfl fun K m=> ?_
 unfold Oper.wp
 have e1:(execOp a.eval ⟨some d,.call {callee:= .value (.func bk),args:=c8,argTypes:=fi},ty,pos,af,none⟩).run prog W= .ok (.enter bk aj.toArray) W:=by
  rw[k7,i.args s,j0 l]
 rw[xC,e1,Oper.upon_enter]
 refine(rk Hc Hf [] rw r rfl n q i).mono ?_
 rintro E W' ⟨c,R',X',j,f,_,h3,g,-,h⟩
 cases E with
 |returned v=>
  refine m _ _ ?_
  rw[CK]
  exact k v c R' X' f h3 g ad _ W' (h.put (x:= .val v) (dn p) (fun k o e=>by cases e))
 |panicked ch=>exact t ch c R' X' f h3 g ad a W' h
 |outgrown=>exact absurd rfl j
theorem K1{F:FuncId}{x:Operand}{cap:LV}(f:ev ⟨sl,bx,rw⟩ x=some (.val (.func (.func F) #[] cap.toArray)))(h:nE C [{target:= .fn (.func F) cap.toArray,args:=#[]}] Q .normal ⟨sl,bx,rw⟩ R X):
 bN C ops Q [⟨none,.defer {callee:= .value x,args:=#[],argTypes:=#[]},ty,pos,af,none⟩] ⟨sl,bx,rw⟩ R X:=by
 intro ad a W b
 have e1:=b.rel.eval f
 simp only[AV.den] at e1
 refine wpList_plain rfl fun K d=> ?_
 unfold Oper.wp
 have:(execOp a.eval ⟨none,.defer {callee:= .value x,args:=#[],argTypes:=#[]},ty,pos,af,none⟩).run prog W= .ok (.defer {target:= .fn (.func F) cap.toArray,args:=#[]}) W:=by
  simp[execOp,resolve,Deferred.ofValue,e1]
 rw[this,Oper.upon_defer]
 refine d _ _ ?_
 have c:=h ad a W b
 have e:a.defers=[]:=b.rel.defers
 have e2:({a with defers:={target:=Target.fn (.func F) cap.toArray,args:=#[]}::a.defers}:Act).put none undef=wD [{target:= .fn (.func F) cap.toArray,args:=#[]}] a:=by
  unfold wD Act.put
  rw[e]
 rw[e2]
 exact c
theorem K2{x y z:Operand}(e:ev S x=some (.val az))(f:ev S y=some (.val cM))(g:ev S z=some (.val fp)):bO K S R (.makeFunc (.func bk) #[] #[x,y,z]) ty (.val (.func (.func bk) #[] [az,cM,fp].toArray)):=
 bO.of fun ad ac W dst pos af h a i=>by
  have b:=a.eval e
  have c:=a.eval f
  have h3:=a.eval g
  simp only[AV.den] at b c h3
  have d:(Instr.makeFunc (.func bk) #[] #[az,cM,fp]).run prog W= .ok (.func (.func bk) #[] #[az,cM,fp]) W:=rfl
  simp[execOp,b,c,h3,AV.den,d]
theorem K3{x:Operand}(a:ev S x=some (.val (.iface aH az))):bO K S R (.binOp .eql 20 x (.const .nilIface) 20) ty (.val (.bool false)):=
 gV a rfl (fun W=>by rfl)
theorem K4{x:Operand}(a:ev S x=some (.val .nilIface)):bO K S R (.binOp .eql 20 x (.const .nilIface) 20) ty (.val (.bool true)):=
 gV a rfl (fun W=>by cases x<;>rfl)
theorem K5(T:TypeId)(v:Vl)(W:Wd):(Instr.typeAssert (.iface 173 v) T 173 true).run prog W= .ok (.tuple #[v,.bool true]) W:=by
 have h:(match prog.underlying 173 with|some (.struct _)=>true|_=>false)=true:=by kernel_rfl
 cases e:prog.underlying 173 with
 |none=>rw[e] at h;cases h
 |some D=>
  rw[e] at h
  cases D with
  |struct s=>simp[Instr.typeAssert,Sem.run_bind,run_underlying e,Result.andThen]
  |_=>cases h
theorem K6{x:Operand}(c:ev S x=some (.val (.iface 173 az))):bO K S R (.typeAssert x aH 173 true) ty (.val (.tuple #[az,.bool true])):=
 bO.of fun ad ac W dst pos af d b e=>by
  have a:=b.eval c
  simp only[AV.den] at a
  simp only[execOp,a,Sem.run_bind,K5,Result.andThen_ok,Sem.run_pure,AV.den]
end
theorem K7(m:aj.length≤ae)(i:Own [] aV ah (fun _=>0) bR)(f:j9 ⟨[],[],aV⟩ ah aJ (fun _=>0) bR):
 ck ⟨⟨ae,bR,ah,GX aJ.H aV,0,fun _=>0⟩,aJ.K⟩ ⟨ik (aj.map .val) 0,[],aV⟩ ah aJ (fun _=>0) {tmps:=aj.toArray++Array.replicate (ae -aj.toArray.size) undef,defers:=[]} bR:=by
 refine⟨⟨?_,rfl,fun t x g=> ?_,fun t k o g=> ?_,i,⟨rfl,rfl,rfl,a9 _,fun _ _ _=>rfl,fun _ _ _ _ hu=> .inl hu,Sub.refl ah⟩,fun k d=>(by cases d),fun r l b c=> .inr (.inr ⟨r,l,c⟩),a9 _,fun _ d=>(by cases d)⟩,⟨f.k,f.h,f.kh,fun b _ k d=>(by cases d),f.row,f.b9⟩,fun b c=> .inr (.inl c),fun b ob c _=> .inl c,fun b ob c=>c⟩
 ·simp only[Array.size_append,List.size_toArray,Array.size_replicate];omega
 ·obtain⟨-,a⟩:=nV _ 0 t x g
  simp only[Nat.sub_zero,List.getElem?_map] at a
  cases e:aj[t]? with
  |none=>rw[e] at a;cases a
  |some u=>
   rw[e] at a
   simp only[Option.map_some,Option.some.injEq] at a
   subst a
   have j:=(List.getElem?_eq_some_iff.1 e).1
   rw[Array.getElem?_append_left (by simpa using j)]
   simp[e,AV.den]
 ·obtain⟨-,a⟩:=nV _ 0 t _ g
  simp only[Nat.sub_zero,List.getElem?_map] at a
  cases e:aj[t]? with
  |none=>rw[e] at a;cases a
  |some u=>rw[e] at a;cases a
def xE (F:FuncId) (args:List Value) (R:World) (X:Hx) (u:FrameMode) (eP:FrameMode→ka):Prop:=
 ∀w,Own [] [] R (fun _=>0) w→j9 ⟨[],[],[]⟩ R X (fun _=>0) w→CallsD prog F args.toArray u w fun E a W=>hU ⟨⟨0,w,R,GX X.H [],0,fun _=>0⟩,X.K⟩ (eP a) E W
theorem K8{d id:Nat}{v:Vl}(hu:oJ.mode= .panicking ({v,recovered:=false}::ov))
 (h:gl.wp oK (fun e a c=>xF e a ({oJ with mode:= .panicking ({v,recovered:=true}::ov)}::r5) c) (cj.put (some d) v) ah):
 (Code.seq (.region id #[⟨some d,.call {callee:= .builtin .recover,args:=#[],argTypes:=#[]},aH,kx,ky,none⟩] false) gl).wpS oK xF cj (oJ::r5) ah:=by
 have b:(execOp cj.eval ⟨some d,.call {callee:= .builtin .recover,args:=#[],argTypes:=#[]},aH,kx,ky,none⟩).run oK ah= .ok .recover ah:=rfl
 apply wpS_seq
 apply wpS_region
 simp[wpOpsS,Region.wanted,b,recoverD,hu,Exit.thenS]
 exact wpS_of_wp h
theorem K9{d id:Nat}(hu:oJ.mode= .returning)
 (h:gl.wp oK (fun e a c=>xF e a (oJ::r5) c) (cj.put (some d) .nilIface) ah):
 (Code.seq (.region id #[⟨some d,.call {callee:= .builtin .recover,args:=#[],argTypes:=#[]},aH,kx,ky,none⟩] false) gl).wpS oK xF cj (oJ::r5) ah:=by
 have b:(execOp cj.eval ⟨some d,.call {callee:= .builtin .recover,args:=#[],argTypes:=#[]},aH,kx,ky,none⟩).run oK ah= .ok .recover ah:=rfl
 apply wpS_seq
 apply wpS_region
 simp[wpOpsS,Region.wanted,b,recoverD,hu,Exit.thenS]
 exact wpS_of_wp h
theorem La:aF 75:=by unfold aF;kernel_rfl
theorem CM:aF 76:=by unfold aF;kernel_rfl
theorem Lb:aF 77:=by unfold aF;kernel_rfl
section
variable{C:eF}{ds:List Deferred}{ops:Array Oper}{Q:Exit→Act→Wd→Prop}{S:St}{sl:List (Nat×AV)}{bx:List Bx}{rw:List bU}{R R' R0:Wd}{X X':Hx}{d:Nat}{ty:TypeId}{pos:String}{af:Array Edge}{Kb:Nat→Bool}{HH:Hp}{S0:St}{aq:Nat→Nat}{ay:Nat}{aN:Array Bool}
theorem xG{i:Nat}{x y:Operand}{b off n:Nat}{cs:LV}(d:LV)(v:ops[i]?=some ⟨none,.store aH x y,ty,pos,af,none⟩)(B:ev ⟨sl,bx,rw⟩ x=some (.val (.pointer (some ⟨b,off,none⟩))))(D:ev ⟨sl,bx,rw⟩ y=some (.val az))(o:X.H b=some (.cells cs.toArray ci (0,0)))
 (u:cr aH ca n) (w:az.cells.size=n) (z:Nat.ble (off+n) cs.length=true) (s:az.cells.toList.all (·.oneCell')=true) (g:cs.take off++az.cells.toList++cs.drop (off+n)=d) (t:∀b ob,HH b=some ob→X.K b=some ob)
 (k:∀X',X'=⟨X.K,aQ X.H b (.cells d.toArray ci (0,0))⟩→cQ C Kb HH S0 R0 aq ops Q ay (aN.setIfInBounds i true) ⟨sl,bx,rw⟩ R X') (A:dV C Kb HH S0 R0 aq ops Q ay aN ⟨sl,bx,rw⟩ R X aI):dV C Kb HH S0 R0 aq ops Q ay aN ⟨sl,bx,rw⟩ R X (i::aI):=by
 intro j l ad a W f e
 rcases dX.1 l with rfl|l
 ·have e1:=f.rel.eval B
  have e2:=f.rel.eval D
  simp only[AV.den] at e1 e2
  have m:=f.own.h b _ o
  have r:=wj m u w (hP z) s
  have:(execOp a.eval ⟨none,.store aH x y,ty,pos,af,none⟩).run prog W= .ok .skip (W.setRow b d.toArray):=by
   rw[g] at r
   simp only[execOp,e1,e2,Sem.run_bind,r,Result.andThen_ok,Sem.run_pure]
  have q:=f.ko (b:=b) (W':=W.setRow b d.toArray) (ot:= .cells d.toArray ci (0,0)) (by rw[o];simp) (sG m)
  have p:=(⟨e.ad,e.bx,e.sub,e.le,fun c ob g=> .inl (t c ob g)⟩:lY Kb HH S0 R0 aq ⟨sl,bx,rw⟩ R ⟨X.K,aQ X.H b (.cells d.toArray ci (0,0))⟩ ad)
  unfold wpOp
  simp only[v,Region.wanted]
  refine .inl ?_
  unfold Oper.wp
  rw[this]
  exact⟨q.held p,k _ rfl ad a _ q p⟩
 ·exact A j l ad a W f e
theorem xH{c:Code}(h:VX C c Q S R X)(a:ck C S R X a0 cj ah):c.wp prog Q cj ah:=h a0 cj ah a
theorem uq{c:Code}{bs:List Bx}(e:bx=bs++ [(aH,aj)])(f:Nat.ble C.nb bs.length=true)
 (k:∀b X',X.K b=none→X.H b=none→X'=⟨X.K,aQ X.H b (.cells aj.toArray aH (0,0))⟩→VX C c Q ⟨kL bs.length b sl,bs,rw⟩ R X'):VX C c Q ⟨sl,bx,rw⟩ R X:=by
 subst e
 exact Ht (hP f) fun b a d=>k b _ a d rfl
theorem CN(h:r4 C ds gl Q S R X):nE C ds (Exit.then (fun a w=>gl.wp prog Q a w) Q) .normal S R X:=h
theorem CO(e:eN= .normal∨eN= .ret)(f:dx.results=#[])(g:ur us (.returned (.tuple #[])) [] R X):
 DX ⟨⟨ae,ah,R0,nR,ao,a0⟩,b1⟩ (fun eN d h=>bodyPostS prog dx oJ r5 (fun E u W=>hU ⟨⟨0,ah,R0,nR,ao,a0⟩,b1⟩ (ur u) E W) eN d ({oJ with mode:=us}::r5) h) eN S R X:=fun ad a W b=>by
 have c:∃v,(results dx a.tmps).run prog W= .ok v W∧hU ⟨⟨0,ah,R0,nR,ao,a0⟩,b1⟩ (ur us) (.returned v) W:=⟨.tuple #[],by rw[kt,f];simp,ou (C:=⟨⟨ae,ah,R0,nR,ao,a0⟩,b1⟩) b (by simp) (List.nil_sublist _) g⟩
 rcases e with rfl|rfl
 ·exact⟨b.rel.defers,us,rfl,c⟩
 ·exact⟨b.rel.defers,us,rfl,c⟩
theorem CP(e:ck C S R X a0 cj ah)(f:rm≠ .outgrown)(h:dZ rm [] R ⟨C.K0,bH⟩):hU C dZ rm ah:=
 ⟨[],R,⟨C.K0,bH⟩,f,e.rel.cg,⟨fun k T cs d=>(by cases d),fun i j g=>(by cases g),fun r c=>(by cases c),fun r c=>(by cases c),List.Pairwise.nil,fun b o u hu=>⟨(e.rel.own.b9 b o u hu).1,fun k d=>(by cases d),fun r c=>(by cases c)⟩⟩,
   ⟨fun b ob a=>e.own.k b ob (e.sub b ob a),fun b ob a=>(by cases a),fun b _=>rfl,fun b _ k d=>(by cases d),fun b _ r c=>(by cases c),fun b a=>absurd rfl a⟩,fun r c=>(by cases c),fun b a=>absurd rfl a,fun b ob a _=> .inl a,fun b ob a=>a,h⟩
theorem qb{W:Wd}(c:ck C S R X a0 cj W){t T b d:Nat}{cs:LV}(g:look S.bW t=some (.val (.pointer (some ⟨b,0,none⟩))))(f:X.H b=some (.cells cs.toArray d (0,0)))(h3:(cr T true cs.length∧az= .agg cs.toArray)∨(cr T false 1∧cs[0]?=some az)):
 (mW cj.tmps (.cell t T)).run prog W= .ok az W:=by
 have:=c.rel.slot t _ g
 have a:=c.own.h b _ f
 simp only[mW,Array.getD_eq_getD_getElem?,this,Option.getD_some,AV.den,asAddr,Sem.run_bind,Sem.run_pure,Result.andThen_ok]
 rcases h3 with⟨h3,rfl⟩|⟨h3,e⟩
 ·have:=o1 (b:=b) (o:=0) (W:=W) h3 (fun j u hu=>by rw[Nat.zero_add];exact pN a hu)
  simpa[Instr.loadAt,Instr.sureAddr] using this
 ·have:=o2 (b:=b) (o:=0) (W:=W) h3 (pN a e)
  simpa[Instr.loadAt,Instr.sureAddr] using this
theorem CQ{fn:Func}{Hc Hf:Hp}{u:FrameMode}(p:aF bk)(A:S.rows=[])(hu:u≠ .run)(B:xE bk aj R ⟨X.K,Hc⟩ u ur)(i:X.H=dH Hc Hf)(s:∀b,Hc b≠none→Hf b=none)
 (z:∀a w,Leaves prog fn a.tmps (hU C dZ) a.defers u w→Q eN a w)
 (k:∀c E e R' X',Sub R R'→ur c E e R' X'→(∀b,X'.H b≠none→Hf b=none)→e=[]∧E= .returned (.tuple #[])∧settle c= .returning∧∀ad a W,ck C S R' ⟨X'.K,dH X'.H Hf⟩ ad a W→∃v,(results fn a.tmps).run prog W= .ok v W∧hU C dZ (.returned v) W):
 nE C [{target:= .fn (.func bk) aj.toArray,args:=#[]}] Q eN S R X:=by
 intro ad a W f
 refine z _ _ ?_
 have t:(invoke (.fn (.func bk) aj.toArray) #[]).run prog W= .ok (.enter bk aj.toArray) W:=by
  have:=j0 p aj.toArray W
  simpa[invoke] using this
 refine leaves_cons hu t ?_
 have d:S.rows=[]++ []:=by rw[A];rfl
 have h:=f.rel.own
 rw[d] at h
 refine(B W h.AG (f.own.part d i)).mono ?_
 rintro E c W' ⟨e,R',X',I,j,q,x,F,o,G,D,y⟩
 obtain⟨r,g⟩:=f.called d i s j q x F o G D
 obtain⟨rfl,rfl,l,m⟩:=k c E e R' X' j.sub y r
 show Leaves prog fn (wD _ a).tmps (hU C dZ) [] (settle c) W'
 rw[l]
 have n:ck C S R' ⟨X'.K,dH X'.H Hf⟩ ad a W':=by
  have eN:({S with rows:=[]++ []}:St)=S:=by rw[←d]
  rw[eN] at g
  exact g
 exact m ad a W' n
end
theorem xI{X:Hx}{n N:Nat}{args:LV}(c:n=N)(a:args.length≤N)(b:Own [] aV ah (fun _=>0) bR)(d:j9 ⟨[],[],aV⟩ ah X (fun _=>0) bR):
 ck ⟨⟨N,bR,ah,GX X.H aV,0,fun _=>0⟩,X.K⟩ ⟨ik (args.map .val) 0,[],aV⟩ ah X (fun _=>0) {tmps:=args.toArray++Array.replicate (n -args.toArray.size) undef,defers:=[]} bR:=by
 subst c
 exact K7 a b d
theorem Lc{R:Wd}{X:Hx}{wh n:Int}(g:X.H ae=some (.cells [zS,zI 0,.string ⟨#[]⟩,zI 0,zS].toArray 91 (0,0)))(i:X.H ao=some (.cells [zI 0].toArray 3 (0,0)))(b:X.H aX=some (.cells [zI 0].toArray 3 (0,0)))(j:ao≠ae)(c:aX≠ae)(f:aX≠ao):xE 76 [bP ae,bP ao,bP aX] R X (.panicking [{v:= .iface 173 (.agg #[zI wh,zI n]),recovered:=false}]) (fun p E ts R' X'=>ts=[]∧E= .returned (.tuple #[])∧p= .panicking [{v:= .iface 173 (.agg #[zI wh,zI n]),recovered:=true}]∧X'=⟨X.K,aQ (aQ (aQ X.H ae (.cells [zS,zI 0,.string ⟨#[]⟩,zI 0,zS].toArray 91 (0,0))) ao (.cells [zI wh].toArray 3 (0,0))) aX (.cells [zI n].toArray 3 (0,0))⟩):=by
 intro w l m
 refine callsD_of_wpS func76 rfl fun q cs hu=> ?_
 refine K8 hu ?_
 refine xH (S:=⟨(6,.val (.iface 173 (.agg #[zI wh,zI n])))::ik ([bP ae,bP ao,bP aX].map .val) 0,[],[]⟩) (R:=R) (X:=X) ?_ ((xI (args:=[bP ae,bP ao,bP aX]) (N:=17) ntmps76 (hP rfl) l m).put (d:=6) (x:= .val (.iface 173 (.agg #[zI wh,zI n]))) (dn rfl) (fun k o e=>by cases e))
 refine cG 3 rfl (xp (K3 rfl) rfl (an 5 rfl (xp (K6 rfl) rfl (an 11 rfl ?_))))
 refine dM mixed (fun k=>k==0) bH (fun _ _ h=>by cases h) fun aq=> ?_
 refine xt 0 rfl (bJ (vs:=[]) (v:= .agg #[zS,zI 0,.string ⟨#[]⟩,zI 0,zS]) rfl (fun W=>by kernel_rfl)) rfl (by kernel_rfl) id (bm [1,2,3,4] rfl (by kernel_rfl) id (bp [5] (by kernel_rfl) rfl ?_))
 refine xG (cs:=[zS,zI 0,.string ⟨#[]⟩,zI 0,zS]) [zS,zI 0,.string ⟨#[]⟩,zI 0,zS] rfl rfl rfl g r0 rfl rfl rfl rfl (fun _ _ h=>by cases h) ?_ bt
 rintro a rfl
 refine bp [6] (by kernel_rfl) rfl ?_
 refine xG (cs:=[zI 0]) [zI wh] rfl rfl rfl ((bh _ _ j).trans (i)) bG rfl rfl rfl rfl (fun _ _ h=>by cases h) ?_ bt
 rintro a rfl
 refine bp [7] (by kernel_rfl) rfl ?_
 refine xG (cs:=[zI 0]) [zI n] rfl rfl rfl ((bh _ _ f).trans ((bh _ _ c).trans (b))) bG rfl rfl rfl rfl (fun _ _ h=>by cases h) ?_ bt
 rintro a rfl
 refine du (by kernel_rfl) (br 1 rfl ?_)
 exact CO (.inl rfl) results76 ⟨rfl,rfl,rfl,rfl⟩
theorem Ld{R:Wd}{X:Hx}:xE 76 [bP ae,bP ao,bP aX] R X .returning (fun c E ts R' X'=>ts=[]∧E= .returned (.tuple #[])∧c= .returning∧X'=X):=by
 intro w a b
 refine callsD_of_wpS func76 rfl fun f cs hu=> ?_
 refine K9 hu ?_
 refine xH (S:=⟨(6,.val (.nilIface))::ik ([bP ae,bP ao,bP aX].map .val) 0,[],[]⟩) (R:=R) (X:=X) ?_ ((xI (args:=[bP ae,bP ao,bP aX]) (N:=17) ntmps76 (hP rfl) a b).put (d:=6) (x:= .val (.nilIface)) (dn rfl) (fun k o e=>by cases e))
 refine cG 3 rfl (xp (K4 rfl) rfl (an 7 rfl ?_))
 exact CO (.inl rfl) results76 ⟨rfl,rfl,hu,rfl⟩
def h3 (b c a:Nat):Hp:=aQ (aQ (hT a (.cells [.int .i64 0].toArray 3 (0,0))) c (.cells [.int .i64 0].toArray 3 (0,0))) b (.cells [.slice none 0 0,.int .i64 0,.string ⟨#[]⟩,.int .i64 0,.slice none 0 0].toArray 91 (0,0))
theorem CR(a:b1 aX=none)(d:b1 ao=none)(b:b1 ae=none):dH b1 (h3 ae ao aX)=aQ (aQ (aQ b1 aX (.cells [zI 0].toArray 3 (0,0))) ao (.cells [zI 0].toArray 3 (0,0))) ae (.cells [zS,zI 0,.string ⟨#[]⟩,zI 0,zS].toArray 91 (0,0)):=by
 funext c
 unfold h3 dH hT aQ bH
 by_cases e:c=ae
 ·subst e;simp[b]
 ·rw[if_neg e,if_neg e]
  by_cases e2:c=ao
  ·subst e2;simp[d]
  ·rw[if_neg e2,if_neg e2]
   by_cases e3:c=aX
   ·subst e3;simp[a]
   ·rw[if_neg e3,if_neg e3]
    cases b1 c<;>rfl
theorem Lf(b:b1 aX=none)(f:b1 ao=none)(d:b1 ae=none):∀c,b1 c≠none→h3 ae ao aX c=none:=fun c a=>by
 unfold h3 hT aQ bH
 rw[if_neg (fun e=>a (by rw[e];exact d)),if_neg (fun e=>a (by rw[e];exact f)),if_neg (fun e=>a (by rw[e];exact b))]
theorem CS(h:∀c,b1 c≠none→h3 ae ao aX c=none):b1 ae=none∧b1 ao=none∧b1 aX=none:=by
 have a:∀c,h3 ae ao aX c≠none→b1 c=none:=fun c b=>by
  cases e:b1 c with
  |none=>rfl
  |some x=>exact absurd (h c (by rw[e];simp)) b
 refine⟨a _ ?_,a _ ?_,a _ ?_⟩
 ·unfold h3 aQ;simp
 ·unfold h3 aQ;split<;>simp
 ·unfold h3 hT aQ;split<;>(try split)<;>simp
theorem CT{c:LV}(h:Md.Cs ah ak c)(a:Sub ah bR):Md.Cs bR ak c:=by
 obtain⟨A,cap,B,b,d,e,h3,f,g⟩:=h
 exact⟨A,cap,B,b,d,e,aC eI h3 a,f,aC dt g a⟩
theorem fw.sub{R R':Wd}{t:Ty}{c:LV}(h:fw R t c)(f:Sub R R'):fw R' t c:=by
 obtain⟨A,cap,a,b,d,h3,e⟩:=h
 exact⟨A,cap,a,b,d,h3,Ty.Cs.sub e f⟩
def CU (K:Act→World→Prop):Exit→Act→World→Prop
 | .normal,a,w=>K a w
 |_,_,_=>False
theorem Lg{x y:Code}(h:VX dj x (CU fun a w=>y.wp prog dy a w) bI ah aJ):VX dj (.seq x y) dy bI ah aJ:=fun ad a W c=>wp_seq (wp_mono (h ad a W c) fun e d f b=>by
 cases e with
 |normal=>exact b
 |_=>exact b.elim)
theorem Lh(h:VX dj gl dy bI ah aJ):DX dj (CU fun a w=>gl.wp prog dy a w) .normal bI ah aJ:=h
theorem Li{x y:Code}(h:r4 dj r6 x (Exit.then (fun a w=>y.wp prog dy a w) dy) bI ah aJ):r4 dj r6 (.seq x y) dy bI ah aJ:=fun ad a W b=>wp_seq (h ad a W b)
theorem Lj(h:nE dj r6 dy .ret bI ah aJ):r4 dj r6 .ret dy bI ah aJ:=fun ad a W b=>wp_ret (h ad a W b)
theorem Lk(h:nE dj r6 dy (.panic ov) bI ah aJ):nE dj r6 (Exit.then nM dy) (.panic ov) bI ah aJ:=h
theorem xJ(h:b1 ae=some fH):dH b1 ff ae=some fH:=by unfold dH;rw[h]
theorem Ll(h:∀c,b1 c≠none→ff c=none):dH b1 ff=dH ff b1:=by
 funext c
 unfold dH
 cases e:b1 c with
 |none=>cases ff c<;>rfl
 |some x=>rw[h c (by rw[e];simp)]
theorem Lm(h:∀c,b1 c≠none→h3 ae ao aX c=none):∀c,h3 ae ao aX c≠none→b1 c=none:=fun c a=>by
 cases e:b1 c with
 |none=>rfl
 |some x=>exact absurd (h c (by rw[e];simp)) a
def Ln (m:Nat→M Ty) (st:PS) (R':World) (v:Value):Prop:=∃r,aG m st r∧match r with
 | .ok (t,_)=>∃a,fw R' t a∧v= .tuple #[.agg a.toArray,.int .i64 0,.int .i64 0]
 | .error t=>v= .tuple #[.agg [.slice none 0 0,.int .i64 0,.string ⟨#[]⟩,.int .i64 0,.slice none 0 0].toArray,.int .i64 t.1,.int .i64 t.2]
def CV (m:Nat→M Ty) (st:PS):ka:=fun E ts R' X'=>ts=[]∧X'=⟨bH,bH⟩∧∃v,E= .returned v∧Ln m st R' v
theorem Lp(aH:qa){R:Wd}(an:Md.Cs R ak aj)(aX:∀r∈ak.rs,r.eo≤100000)(am:Ex.Cs R aM bj)(aR:aM.k≠8)(a2:aM.size≤100000)(ao:a6 dU 1 R az cC)(n:Int)(cells:List PC)(a3:Gh (hd ak) cells.length gI):
 cJ 54 [.agg aj.toArray,.agg bj.toArray,az,zI n] [] R ⟨bH,bH⟩ (CV (fun g=>hv (aB (hd ak) g) gI aM) ⟨cells,iC n,cC⟩):=by
 have aS:=an
 obtain⟨o,x,p,y,rfl,_⟩:=an
 have aO:=am
 obtain⟨B,C,rfl,_⟩:=fo am
 have aY:=ao
 obtain⟨ax,aE,rfl,_⟩:=ao
 intro w aI aW
 refine calls_of_wp_defers (R:=hU ⟨⟨21,w,R,GX bH [],0,fun _=>0⟩,bH⟩ (CV (fun g=>hv (aB (hd ak) g) gI aM) ⟨cells,iC n,cC⟩)) func54 rfl ?_
 have ap:=xI (X:=⟨bH,bH⟩) (args:=[.agg [.slice o ak.ds.length x,.slice p ak.rs.length y].toArray,.agg [zI aM.k,.string aM.s,zI aM.n,.slice B aM.ys.length C,zI aM.l,zI aM.c].toArray,.slice ax cC.length aE,zI n]) (N:=21) ntmps54 (hP rfl) aI aW
 refine xH ?_ ap
 clear ap
 refine kM (ld (ow 0 [(26,[.slice o ak.ds.length x,.slice p ak.rs.length y])] rfl rfl rfl rfl rfl (ow 1 [(26,[.slice o ak.ds.length x,.slice p ak.rs.length y]),(31,[zI aM.k,.string aM.s,zI aM.n,.slice B aM.ys.length C,zI aM.l,zI aM.c])] rfl rfl rfl rfl rfl (ag N2 rfl (ag N3 rfl (ag N4 rfl (l0 (lf ?_))))))))
 refine Lg ?_
 refine dM mixed (fun k=>k==0) bH (fun _ _ h=>by cases h) fun aq=> ?_
 refine da 0 rfl (by kernel_rfl) id (da 1 rfl (by kernel_rfl) id (da 3 rfl (by kernel_rfl) id (bp [2] (by kernel_rfl) rfl ?_)))
 refine iy rfl (Iu aY) Br rfl rfl (fun _ _ h=>by cases h) ?_ ?_
 rintro _ a7 ar ⟨ay,aF,rfl,aP,aZ⟩
 refine bp [4] (by kernel_rfl) rfl ?_
 refine fY rfl (Ky (CT aS ar) aX ⟨ay,aF,rfl,aP,aZ⟩ n) La rfl rfl (fun _ _ h=>by cases h) ?_ ?_ ?_
 rintro bd I a8 i a0 _ ⟨rfl,wb,aM,P⟩
 cases aM
 replace P:=P cells (fun _=>0)
 refine da 5 rfl (by kernel_rfl) id (du (by kernel_rfl) ?_)
 refine Lh ?_
 refine kM ?_
 refine uq (bs:=[(26,[.slice o ak.ds.length x,.slice p ak.rs.length y]),(31,[zI aM.k,.string aM.s,zI aM.n,.slice B aM.ys.length C,zI aM.l,zI aM.c]),(91,[zS,zI 0,.string ⟨#[]⟩,zI 0,zS]),(3,[zI 0])]) rfl rfl ?_
 rintro d aa _ ai rfl
 refine uq (bs:=[(26,[.slice o ak.ds.length x,.slice p ak.rs.length y]),(31,[zI aM.k,.string aM.s,zI aM.n,.slice B aM.ys.length C,zI aM.l,zI aM.c]),(91,[zS,zI 0,.string ⟨#[]⟩,zI 0,zS])]) rfl rfl ?_
 rintro e aa _ M rfl
 refine uq (bs:=[(26,[.slice o ak.ds.length x,.slice p ak.rs.length y]),(31,[zI aM.k,.string aM.s,zI aM.n,.slice B aM.ys.length C,zI aM.l,zI aM.c])]) rfl rfl ?_
 rintro f aa bc J rfl
 have m:e≠d:=fun q=>by rw[q] at M;exact absurd M (by show aQ i.H d _ d≠none;rw[b0];simp)
 have ah:i.H e=none:=(bh _ _ m).symm.trans M
 have A:f≠e:=fun q=>by rw[q] at J;exact absurd J (by show aQ (aQ i.H d _) e _ e≠none;rw[b0];simp)
 have L:aQ i.H d (.cells [zI 0].toArray 3 (0,0)) f=none:=(bh _ _ A).symm.trans J
 have z:f≠d:=fun q=>by rw[q,b0] at L;cases L
 have af:i.H f=none:=(bh _ _ z).symm.trans L
 refine ld (xp (v:= .val (.func (.func 76) #[] [.pointer (some ⟨f,0,none⟩),.pointer (some ⟨e,0,none⟩),.pointer (some ⟨d,0,none⟩)].toArray)) (K2 rfl rfl rfl) rfl ?_)
 refine K1 (F:=76) (cap:=[.pointer (some ⟨f,0,none⟩),.pointer (some ⟨e,0,none⟩),.pointer (some ⟨d,0,none⟩)]) rfl ?_
 refine CN ?_
 refine Li ?_
 refine KX ?_
 refine CL (yI rfl) rfl ?_
 refine CL (yL rfl rfl rfl cY) rfl ?_
 have aJ:(⟨i.K,aQ (aQ (aQ i.H d (.cells [zI 0].toArray 3 (0,0))) e (.cells [zI 0].toArray 3 (0,0))) f (.cells [zS,zI 0,.string ⟨#[]⟩,zI 0,zS].toArray 91 (0,0))⟩:Hx)=⟨i.K,dH i.H (h3 f e d)⟩:=by rw[CR ai ah af]
 rw[aJ]
 refine KZ (Hc:=i.H) (Hf:=h3 f e d) (KW a3 aH xu P (aO.sub (ar.trans a0)) aR a2) Lb rfl rfl (Lf ai ah af) rfl ?_ ?_
 rintro be I aA Z _ D ⟨rfl,r,O,G⟩
 rcases r with t|⟨t,a4⟩
 cases G
 obtain⟨aG,al,aM⟩:=G
 cases aM
 have aL:=al
 obtain⟨V,ac,bb,rfl,_,_,aN⟩:=al
 obtain⟨au,aw,av,ys⟩:=t
 obtain⟨Y,ae,rfl,_⟩:=aN
 obtain⟨aU,aV,aT⟩:=CS D
 rw[CR aT aV aU]
 refine xD (cs:=[zS,zI 0,.string ⟨#[]⟩,zI 0,zS]) [.slice V 0 ac,zI au,.string aw,zI av,.slice Y ys.length ae] rfl rfl (b0 _ _ _) r0 rfl rfl rfl rfl ?_
 rintro ab rfl
 simp only[iM]
 refine xD (cs:=[zI 0]) [zI 0] rfl rfl ((bh _ _ A.symm).trans (b0 _ _ _)) bG rfl rfl rfl rfl ?_
 rintro ab rfl
 refine xD (cs:=[zI 0]) [zI 0] rfl rfl ((bh _ _ m.symm).trans ((bh _ _ z.symm).trans ((bh _ _ m.symm).trans (b0 _ _ _)))) bG rfl rfl rfl rfl ?_
 rintro ab rfl
 refine KY ?_
 refine CN ?_
 refine Lj ?_
 refine CQ (fn:=Tryz.f54) (Hc:=bH) (u:= .returning) CM rfl (by simp) Ld rfl (fun b aK=>absurd rfl aK) (fun a w h=>h) ?_
 rintro a5 E I aC aD a1 ⟨rfl,rfl,rfl,rfl⟩ -
 refine⟨rfl,rfl,rfl,fun ad a W j=> ?_⟩
 have S:=qb j (t:=8) (T:=91) (b:=f) (cs:=[.slice V 0 ac,zI au,.string aw,zI av,.slice Y ys.length ae]) rfl ((bh _ _ z).trans ((bh _ _ A).trans (b0 _ _ _))) (.inl ⟨r0,rfl⟩)
 have U:=qb j (t:=9) (T:=3) (b:=e) (cs:=[zI 0]) rfl ((bh _ _ m).trans (b0 _ _ _)) (.inr ⟨bG,rfl⟩)
 have Q:=qb j (t:=10) (T:=3) (b:=d) (cs:=[zI 0]) rfl (b0 _ _ _) (.inr ⟨bG,rfl⟩)
 exact⟨_,by rw[kt,results54];simp[S,U,Q],CP j (by simp) ⟨rfl,rfl,_,rfl,_,O,_,fw.sub aL a1,rfl⟩⟩
 rintro ch I aA Z _ D ⟨rfl,r,O,G⟩
 rcases r with t|⟨t,a4⟩
 cases G
 obtain _:=CS D
 refine Lk ?_
 refine CQ (fn:=Tryz.f54) (Hc:=h3 f e d) (Hf:=Z.H) (u:= .panicking (oy t)) CM rfl (by simp) (Lc (wh:=(t.1:Int)) (n:=t.2) (b0 _ _ _) ((bh _ _ A.symm).trans (b0 _ _ _)) ((bh _ _ z.symm).trans ((bh _ _ m.symm).trans (b0 _ _ _))) A.symm z.symm m.symm) (Ll D) (Lm D) (fun a w h=>h) ?_
 rintro a5 E I aC aD _ ⟨rfl,rfl,rfl,rfl⟩ -
 refine⟨rfl,rfl,rfl,fun ad a W j=> ?_⟩
 have S:=qb j (t:=8) (T:=91) (b:=f) (cs:=[zS,zI 0,.string ⟨#[]⟩,zI 0,zS]) rfl (xJ ((bh _ _ z).trans ((bh _ _ A).trans (b0 _ _ _)))) (.inl ⟨r0,rfl⟩)
 have U:=qb j (t:=9) (T:=3) (b:=e) (cs:=[zI t.1]) rfl (xJ ((bh _ _ m).trans (b0 _ _ _))) (.inr ⟨bG,rfl⟩)
 have Q:=qb j (t:=10) (T:=3) (b:=d) (cs:=[zI t.2]) rfl (xJ (b0 _ _ _)) (.inr ⟨bG,rfl⟩)
 exact⟨_,by rw[kt,results54];simp[S,U,Q],CP j (by simp) ⟨rfl,rfl,_,rfl,.error t,O,rfl⟩⟩
 obtain⟨aG,_,aM⟩:=G
 cases aM
 rintro ch I a9 ba _ _ ⟨_,_,aM,_⟩
 cases aM
 exact bt
 exact bt
section
variable{C:eF}{ops:Array Oper}{Q:Exit→Act→Wd→Prop}{rest:List Oper}{S:St}{sl:List (Nat×AV)}{bx:List Bx}{rw:List bU}{R R':Wd}{X:Hx}{d:Nat}{ty:TypeId}{pos:String}{af:Array Edge}{ad:Nat→Nat}{a:Act}{W:Wd}
theorem Rel.forget(h:Rel hB S R' ad a W)(c:Sub R R')(d:Sub hB.R0 R):Rel hB S R ad a W:=
 ⟨h.size,h.defers,h.slot,h.lt,⟨h.own.box,h.own.inj,h.own.row,h.own.apart,h.own.rows,fun b o u hu=>h.own.b9 b o u (c _ _ _ hu)⟩,
   ⟨h.cg.os,h.cg.tape,h.cg.output,h.cg.size,h.cg.g6,fun b o u e hu=>h.cg.fN b o u e (c _ _ _ hu),d⟩,h.fO,h.rowAt,h.nb,h.fP⟩
theorem ck.Lq(h:ck C ⟨sl,bx,rw⟩ R X ad a W){b e size n cap:Nat}(m:X.H b=some (.cells aj.toArray e (0,0)))(q:aj.length=cap*size)(t:n≤cap)(d:cap≤maxLen):
 ck C ⟨sl,bx,⟨.slice (some ⟨b,0,none⟩) n cap,n,aj.take (n*size),e,size⟩::rw⟩ R ⟨X.K,gy X.H b⟩ ad a W:=by
 have i:X.H b≠none:=by rw[m];simp
 have w:=h.own.h b _ m
 have g:=h.rel
 have hh:∀c,gy X.H b c≠none→c≠b∧X.H c≠none:=by
  intro c d
  by_cases e:c=b
  ·rw[e] at d;exact absurd (if_pos rfl) d
  ·rw[oo _ e] at d;exact⟨e,d⟩
 have l:∀c,(X.K c≠none∨gy X.H b c≠none)→(X.K c≠none∨X.H c≠none)∧c≠b:=fun c d=>by
  rcases d with d|d
  ·exact⟨.inl d,fun e=>by rw[e] at d;exact i (h.own.kh b d)⟩
  ·exact⟨.inr (hh c d).2,(hh c d).1⟩
 have x:n*size≤cap*size:=Nat.mul_le_mul_right _ t
 refine⟨⟨g.size,g.defers,g.slot,g.lt,⟨g.own.box,g.own.inj,fun r f=> ?_,fun r f k p=> ?_,List.pairwise_cons.2 ⟨fun s y c d=> ?_,g.own.rows⟩,fun c o u hu=> ?_⟩,g.cg,g.fO,fun r f c d=> ?_,g.nb,g.fP⟩,
  ⟨h.own.k,fun c o d=> ?_,fun c d=> ?_,fun c d=>h.own.box c (l c d).1,fun c d r f=> ?_,fun c d o=>h.own.b9 c (hh c d).2 o⟩,fun c d=>h.gZ c (hh c d).2,h.iZ,h.sub⟩
 ·rcases dX.1 f with rfl|f
  ·exact⟨by rw[List.length_take,q];exact Nat.min_eq_left x,.inr ⟨b,cap,aj.toArray,rfl,Nat.zero_le _,w,t,d,by simpa using q,by simp⟩⟩
  ·exact g.own.row r f
 ·rcases dX.1 f with rfl|f
  ·intro e
   simp only[Value.ownBlock,Option.some.injEq] at e
   exact h.own.box b (.inr i) k p e.symm
  ·exact g.own.apart r f k p
 ·simp only[Value.ownBlock,Option.some.injEq] at d
  subst d
  exact h.own.row b (.inr i) s y
 ·obtain⟨j,v,h3⟩:=g.own.b9 c o u hu
  refine⟨j,v,fun r f e=> ?_⟩
  rcases dX.1 f with rfl|f
  ·simp only[Value.ownBlock,Option.some.injEq] at e
   subst e
   rw[h.own.b9 b i o] at hu
   cases hu
  ·exact h3 r f e
 ·rcases dX.1 f with rfl|f
  ·simp only[Value.ownBlock,Option.some.injEq] at d
   subst d
   exact h.gZ b i
  ·exact g.rowAt r f c d
 ·replace d:gy X.H b c=some o:=d
  have j:=hh c (by rw[d];simp)
  rw[oo _ j.1] at d
  exact h.own.h c o d
 ·show gy X.H b c=none
  cases e:gy X.H b c with
  |none=>rfl
  |some o=>exact absurd (h.own.kh c d) (hh c (by rw[e];simp)).2
 ·rcases dX.1 f with rfl|f
  ·intro e
   simp only[Value.ownBlock,Option.some.injEq] at e
   exact(l c d).2 e.symm
  ·exact h.own.row c (l c d).1 r f
theorem ck.CW{g cap n e size:Nat}(h:ck C ⟨sl,bx,⟨.slice (some ⟨g,0,none⟩) n cap,n,aj,e,size⟩::rw⟩ R X ad a W)(B:∀o,R.cell? ⟨g,o,none⟩=none):
 ∃i:LV,i.length=cap*size∧i.take (n*size)=aj∧X.K g=none∧X.H g=none∧n≤cap∧cap≤maxLen∧ck C ⟨sl,bx,rw⟩ R ⟨X.K,aQ X.H g (.cells i.toArray e (0,0))⟩ ad a W:=by
 have d:=h.rel
 have A:=d.own.row _ (hD ..)
 have q:=List.pairwise_cons.1 d.own.rows
 have p:X.K g=none:=by
  cases e:X.K g with
  |none=>rfl
  |some o=>exact absurd rfl (h.own.row g (.inl (by rw[e];simp)) _ (List.mem_cons_self ..))
 have z:X.H g=none:=by
  cases e:X.H g with
  |none=>rfl
  |some o=>exact absurd rfl (h.own.row g (.inr (by rw[e];simp)) _ (List.mem_cons_self ..))
 obtain⟨J,j|⟨I,G,i,j,-,h3,t,v,w,x⟩⟩:=A
 ·cases j.1
 ·cases j
  have l:∀c,aQ X.H g (.cells i.toList.toArray e (0,0)) c≠none→c=g∨X.H c≠none:=by
   intro c b
   by_cases e:c=g
   ·exact .inl e
   ·rw[bh _ _ e] at b;exact .inr b
  have s:∀c,(X.K c≠none∨aQ X.H g (.cells i.toList.toArray e (0,0)) c≠none)→c=g∨(X.K c≠none∨X.H c≠none):=fun c b=>by
   rcases b with b|b
   ·exact .inr (.inl b)
   ·exact(l c b).imp id .inr
  refine⟨i.toList,by simpa using w,x,p,z,t,v,⟨d.size,d.defers,d.slot,d.lt,⟨d.own.box,d.own.inj,fun r f=>d.own.row r (List.mem_cons_of_mem _ f),fun r f=>d.own.apart r (List.mem_cons_of_mem _ f),q.2,fun c o u hu=> ?_⟩,d.cg,d.fO,fun r f=>d.rowAt r (List.mem_cons_of_mem _ f),d.nb,d.fP⟩,
   ⟨h.own.k,fun c o b=> ?_,fun c b=> ?_,fun c b k m=> ?_,fun c b r f=> ?_,fun c b o=> ?_⟩,fun c b=> ?_,h.iZ,h.sub⟩
  ·obtain⟨D,E,F⟩:=d.own.b9 c o u hu
   exact⟨D,E,fun r f=>F r (iT _ f)⟩
  ·replace b:aQ X.H g (.cells i.toList.toArray e (0,0)) c=some o:=b
   by_cases e:c=g
   ·subst e
    rw[b0] at b
    cases b
    simpa using h3
   ·rw[bh _ _ e] at b
    exact h.own.h c o b
  ·show aQ X.H g _ c=none
   have y:c≠g:=fun e=>by rw[e,p] at b;exact b rfl
   rw[bh _ _ y]
   exact h.own.kh c b
  ·rcases s c b with rfl|b
   ·intro e
    exact d.own.apart _ (List.mem_cons_self ..) k m (by rw[←e];rfl)
   ·exact h.own.box c b k m
  ·rcases s c b with rfl|b
   ·exact q.1 r f c rfl
   ·exact h.own.row c b r (iT _ f)
  ·rcases l c b with rfl|b
   ·exact B o
   ·exact h.own.b9 c b o
  ·rcases l c b with rfl|b
   ·exact d.rowAt _ (hD ..) c rfl
   ·exact h.gZ c b
theorem Lr{x y:Operand}{b n cap m c:Nat}{mJ news:LV}(I:dO ae ao aX eO)(V:ev ⟨sl,bx,rw⟩ x=some (.val (.slice (some ⟨b,0,none⟩) n cap)))(Y:ev ⟨sl,bx,rw⟩ y=some (.val (.slice aA m c)))(t:X.H b=some (.cells mJ.toArray ao (0,0)))
 (L:mJ.length=cap*aX) (M:n≤cap) (p:cap≤maxLen) (v:Src R aX aA m news) (D:aA=none→c=0) (A:∀u∈news,u.oneCell'=true) (B:n+m≤1000000000) (au:0<m) (F:Nat.ble eO 100000=true) (G:Nat.blt d C.N=true)
 (k:∀(g:Nat) (h:LV) (e:Nat) X',X.K g=none→gy X.H b g=none→n+m≤e→e≤maxLen→h.length=e*aX→h.take ((n+m)*aX)=mJ.take (n*aX)++news→X'=⟨X.K,aQ (gy X.H b) g (.cells h.toArray ao (0,0))⟩→
   bN C ops Q rest ⟨(d,.val (.slice (some ⟨g,0,none⟩) (n+m) e))::sl,bx,rw⟩ R X'):
 bN C ops Q (⟨some d,.call {callee:= .builtin .append,args:=#[x,y],argTypes:=#[ae,ae]},ty,pos,af,none⟩::rest) ⟨sl,bx,rw⟩ R X:=by
 intro ad a W f
 obtain⟨i,z,hu,J,Z,aa,T,s,aq⟩:=I.spec
 have e1:=f.rel.eval V
 have e2:=f.rel.eval Y
 simp only[AV.den] at e1 e2
 have r:=f.Lq t L M p
 have O:=r.rel.own.row _ (hD ..)
 have S:Src W i.size aA m news:=by
  rw[s]
  refine⟨v.1,v.2.imp id ?_⟩
  rintro⟨b,o,e3,p⟩
  exact⟨b,o,e3,fun j u hu=>(f.rel.own.b9 _ _ _ (p j u hu)).1⟩
 have av:(n+m)*i.bytes≤1000000000*100000:=Nat.mul_le_mul B (by have:=hP F;omega)
 obtain⟨az,W',P,g1,g2,l⟩:=yY ae ty ao i z hu J Z aa T (.slice (some ⟨b,0,none⟩) n cap) n (mJ.take (n*aX)) (s▸O) aA m c news S D A (by unfold maxLen;omega) (by omega)
 rw[s] at g1
 obtain⟨R',w,e,al,rfl,_,_,aw,ax,am⟩:=r.here.append rfl g1 g2 l
 have an:=r.oq (Rel.forget am al (Sub.refl R))
 obtain⟨g,rfl⟩:∃g,w=some ⟨g,0,none⟩:=by
  rcases g1.2 with⟨_,ay⟩|⟨g,_,_,q,_⟩
  ·omega
  ·cases q;exact⟨g,rfl⟩
 have U:∀o,R.cell? ⟨g,o,none⟩=none:=fun o=>by
  rcases l with l|⟨⟨ap,q,ar⟩,_⟩
  ·simp only[Value.ownBlock,Option.some.injEq] at l
   subst l
   exact f.own.b9 g (by rw[t];simp) o
  ·simp only[Value.ownBlock,Option.some.injEq] at q
   subst q
   cases ao:R.cell? ⟨g,o,none⟩ with
   |none=>rfl
   |some u=>
    have:=World.block_lt_of_cell? W _ (f.rel.own.b9 g o u ao).1
    simp only at this
    omega
 obtain⟨h,ab,ac,ag,ah,ai,aj,ak⟩:=an.CW U
 have hex:(execOp a.eval ⟨some d,.call {callee:= .builtin .append,args:=#[x,y],argTypes:=#[ae,ae]},ty,pos,af,none⟩).run prog W= .ok (.value (.slice (some ⟨g,0,none⟩) (n+m) e)) W':=by
  simp[execOp,resolve,invoke,builtin,e1,e2,P,Result.andThen]
 refine wpList_plain rfl fun K E=> ?_
 unfold Oper.wp
 rw[hex]
 exact E _ _ (k g h e _ ag ah ai aj ab ac rfl ad _ W' (ak.put (x:= .val (.slice (some ⟨g,0,none⟩) (n+m) e)) (dn G) (fun k o ao=>by cases ao)))
theorem Ls{t e size n:Nat}{vs:LV}{cs:LV}(L:c7 t e size)(E:mn ⟨sl,bx,rw⟩ hY vs)(P:vs.all (fun v=>v.cells.size==size)=true)(D:vs.length=n)(F:Nat.blt 0 n=true)(J:Nat.ble n 1000=true)(z:(vs.flatMap fun v=>v.cells.toList)=cs)(B:Nat.blt d C.N=true)
 (k:∀g X',X.K g=none→X.H g=none→X'=⟨X.K,aQ X.H g (.cells cs.toArray e (0,0))⟩→cs.length=n*size→bN C ops Q rest ⟨(d,.val (.slice (some ⟨g,0,none⟩) n n))::sl,bx,rw⟩ R X'):
 bN C ops Q (⟨some d,.buildSlice t n hY,ty,pos,af,none⟩::rest) ⟨sl,bx,rw⟩ R X:=by
 intro ad a W c
 have y:jA ⟨C.N,W,R,gC ad bx.length rw,bx.length,ad⟩ ⟨sl,bx,rw⟩ R (some d) (.buildSlice t n hY) ty _:=qx (S:=⟨sl,bx,rw⟩) L (fun ad a I=>E.eval I) (fun v O=>by simpa using List.all_eq_true.1 P v O) D (dn F) (Nat.le_of_ble_eq_true J) z (dn B)
 obtain⟨ab,W',V,g1,g2,S',R',h,⟨g,rfl,Y⟩,w,b,x⟩:=y ad a W pos af none c.here
 have U:=c.oq (Rel.forget b w (Sub.refl R))
 have aa:=b.own.row _ (hD ..)
 have Z:W.heap.size≤g:=by
  rcases b.rowAt _ (hD ..) g rfl with q|⟨k,j,q⟩|⟨r,G,q⟩
  ·exact q
  ·exact absurd (by rw[x k j,q];rfl) (b.own.apart _ (List.mem_cons_self ..) k j)
  ·exact absurd q ((List.pairwise_cons.1 b.own.rows).1 r G g rfl)
 have M:∀o,R.cell? ⟨g,o,none⟩=none:=fun o=>by
  cases e:R.cell? ⟨g,o,none⟩ with
  |none=>rfl
  |some u=>
   have:=World.block_lt_of_cell? W _ (c.rel.own.b9 g o u e).1
   simp only at this
   omega
 obtain⟨s,f,T,l,m,_,_,p⟩:=U.CW M
 have A:s=cs:=by rw[←T,List.take_of_length_le (Nat.le_of_eq f)]
 subst A
 refine wpList_plain rfl fun K i=> ?_
 unfold Oper.wp
 rw[g1]
 rcases g2 with⟨v,rfl,rfl⟩|⟨rfl,rfl⟩
 ·exact i _ _ (k g _ l m rfl f h _ W' p)
 ·exact i _ _ (k g _ l m rfl f h _ W' p)
end
def xK {α:Type} (r:Mo.ei α):Prop:=match r with| .error t=>1≤t.1∧t.1≤5∧0≤t.2∧t.2≤1000| .ok _=>True
def aR {α:Type} (m:M α):Prop:=∀st r,m st=some r→xK r
theorem aR.ret{α:Type}(a:α):aR (M.ret a):=fun st r h=>by cases h;trivial
theorem aR.stop{α:Type}(w:Nat)(a:1≤w∧w≤5):aR (stop w:M α):=fun st r h=>by cases h;exact⟨a.1,a.2,Int.le_refl 0,(by decide:(0:Int)≤1000)⟩
theorem aR.bind{α β:Type}{m:M α}{q:α→M β}(b:aR m)(c:∀a,aR (q a)):aR (m.bind q):=by
 intro st r h
 unfold M.bind at h
 cases e:m st with
 |none=>rw[e] at h;cases h
 |some x=>
  rw[e] at h
  rcases x with t|⟨a,a1⟩
  ·cases h
   exact b st _ e
  ·exact c a a1 r h
theorem aR.tick:aR tick:=by
 intro st r h
 unfold Mo.tick at h
 split at h
 ·cases h;exact⟨by decide,by decide,by decide,by decide⟩
 ·cases h;trivial
theorem aR.pick(n:Nat)(a:n≤1000):aR (pick n):=by
 intro st r h
 unfold Mo.pick at h
 split at h
 ·cases h;exact⟨(by decide:1≤1),(by decide:1≤5),(by omega:(0:Int)≤(n:Int)),(by omega:(n:Int)≤1000)⟩
 ·split at h
  ·cases h;exact⟨by decide,by decide,by decide,by decide⟩
  ·cases h;trivial
theorem aR.cell(i:Nat):aR (cell i):=fun st r h=>by cases h;trivial
theorem aR.put(i:Nat)(c:PC):aR (put i c):=fun st r h=>by cases h;trivial
theorem aR.new(c:PC):aR (new c):=fun st r h=>by cases h;trivial
theorem aR.news:∀n,aR (news n)
 |0=>aR.ret _
 |n+1=>(aR.new _).bind fun i=>(aR.news n).bind fun l=>aR.ret _
theorem aR.later(e:Ex)(v:Env):aR (later e v):=by
 unfold Mo.later
 split
 ·exact aR.ret _
 ·exact aR.new _
theorem aR.fz(v:Env):∀l,aR (fz v l)
 |[]=>aR.ret _
 |e::r=>(aR.later e v).bind fun i=>(aR.fz v r).bind fun l=>aR.ret _
structure gJ (f:cT):Prop where
 force:∀c,aR (f.force c)
 eval:∀e v,aR (f.eval e v)
 func:∀s l,aR (f.func s l)
 fU:∀p c v,aR (f.fU p c v)
 whole:∀c s,aR (f.whole c s)
 read:∀c l r,aR (f.read c l r)
theorem aR.apply{f:cT}(a:gJ f)(c:Nat)(args:List Nat):aR (apply f c args):=by
 unfold Mo.apply
 split
 ·exact aR.ret _
 ·refine(aR.cell c).bind fun x=> ?_
  split
  ·exact a.func _ _
  ·exact aR.stop _ (by decide)
theorem aR.name{f:cT}(a:gJ f)(s:BA)(v:Env)(args:List Nat):aR (name f s v args):=by
 unfold Mo.name
 split
 ·exact(a.force _).bind fun c=>aR.apply a c args
 ·exact a.func _ _
theorem aR.jo(a:gJ cI)(c:Nat):aR (jo cI c):=by
 refine(aR.cell c).bind fun x=> ?_
 split
 ·exact aR.ret _
 ·exact(a.eval _ _).bind fun x=>(aR.put _ _).bind fun _=>aR.ret _
 ·exact aR.ret _
theorem aR.branch(c:Nat):aR (branch c):=by
 refine(aR.cell c).bind fun x=> ?_
 split
 ·exact(aR.pick 2 (by decide)).bind fun k=>(aR.put _ _).bind fun _=>aR.ret _
 ·split
  ·exact aR.ret _
  ·split
   ·exact aR.ret _
   ·exact aR.stop _ (by decide)
 ·exact aR.stop _ (by decide)
theorem aR.gQ(a:gJ cI)(e:Ex)(v:Env):aR (gQ cI e v):=by
 refine(aR.later e v).bind fun i=>(a.force i).bind fun c=>(aR.cell c).bind fun x=> ?_
 split
 ·exact aR.ret _
 ·exact aR.stop _ (by decide)
theorem aR.oper{f:cT}(c:gJ f)(e:Ex)(v:Env):aR (oper f e v):=by
 unfold Mo.oper
 split
 ·split
  ·exact(aR.pick 2 (by decide)).bind fun k=>(aR.later _ _).bind fun i=>c.force i
  ·refine(aR.gQ c _ _).bind fun a=>(aR.gQ c _ _).bind fun b=> ?_
   dsimp only
   split
   ·exact aR.stop _ (by decide)
   ·split
    ·exact aR.stop _ (by decide)
    ·split
     ·exact aR.new _
     ·exact aR.new _
 ·exact aR.stop _ (by decide)
theorem aR.other{f:cT}(a:gJ f)(e:Ex)(v:Env):aR (other f e v):=by
 unfold Mo.other
 split
 ·exact aR.new _
 ·split
  ·exact aR.oper a e v
  ·split
   ·split
    ·exact(aR.later _ _).bind fun i=>(a.force i).bind fun c=>(aR.branch c).bind fun k=>a.eval _ _
    ·exact aR.stop _ (by decide)
   ·split
    ·split
     ·exact(aR.later _ _).bind fun i=>a.eval _ _
     ·exact aR.stop _ (by decide)
    ·split
     ·split
      ·exact(aR.new _).bind fun i=>a.eval _ _
      ·exact aR.stop _ (by decide)
     ·exact aR.stop _ (by decide)
theorem aR.iO(a:gJ cI)(e:Ex)(v:Env):aR (iO cI e v):=by
 refine aR.tick.bind fun _=> ?_
 split
 ·exact(aR.fz _ _).bind fun l=>aR.new _
 ·split
  ·exact(aR.fz _ _).bind fun l=>aR.name a _ _ _
  ·split
   ·exact aR.other a e v
   ·exact(aR.later _ _).bind fun i=>(a.force i).bind fun c=>(aR.fz _ _).bind fun l=>aR.apply a c l
theorem aR.dB{f:cT}(a:gJ f):∀(ps:List Ex) (cs:List Nat) (v:Env),aR (dB f ps cs v)
 |[],_,v=>by unfold Mo.dB;exact aR.ret _
 |_::_,[],v=>by unfold Mo.dB;exact aR.ret _
 |p::ps,c::cs,v=>by unfold Mo.dB;exact(a.fU p c v).bind fun v=>aR.dB a ps cs v
theorem aR.guards{f:cT}(a:gJ f)(v:Env):∀l,aR (guards f v l)
 |[]=>aR.ret _
 |g::r=>by
  unfold Mo.guards
  refine(aR.later g v).bind fun i=>(a.force i).bind fun c=>(aR.cell c).bind fun x=> ?_
  split
  ·exact(aR.put _ _).bind fun _=>aR.guards a v r
  ·split
   ·exact aR.guards a v r
   ·exact aR.stop _ (by decide)
  ·exact aR.stop _ (by decide)
theorem aR.hJ(a:gJ cI)(r:Rl)(args:List Nat):aR (hJ cI r args):=(aR.dB a _ _ _).bind fun v=>(aR.guards a v _).bind fun _=>(aR.later _ _).bind fun i=>a.force i
theorem aR.ha{f:cT}(a:gJ f)(rules:List Rl)(args:List Nat)(b:rules.length≤1000):aR (ha f rules args):=by
 unfold Mo.ha
 split
 ·exact aR.stop _ (by decide)
 ·exact aR.hJ a _ _
 ·exact(aR.pick _ b).bind fun k=>aR.hJ a _ _
theorem aR.hb{f:cT}(a:gJ f)(rs:cU)(d:∀s,(rs s).length≤1000)(s:BA)(args:List Nat):aR (hb rs f s args):=by
 unfold Mo.hb
 split
 ·exact aR.stop _ (by decide)
 ·split
  ·exact aR.new _
  ·exact(aR.ha a _ _ (by have:=d s;rename_i b _;rw[b] at this;exact this)).bind fun c=>aR.apply a c _
theorem aR.h9{f:cT}(a:gJ f)(p:Ex)(c:Nat)(v:Env):aR (h9 f p c v):=by
 unfold Mo.h9
 split
 ·exact aR.ret _
 ·split
  ·exact aR.ret _
  ·refine(a.force c).bind fun c=> ?_
   split
   ·refine(aR.cell c).bind fun x=> ?_
    split
    ·exact aR.stop _ (by decide)
    ·split
     ·exact aR.ret _
     ·exact aR.stop _ (by decide)
    ·exact aR.stop _ (by decide)
   ·refine(aR.cell c).bind fun x=> ?_
    split
    ·exact(aR.news _).bind fun l=>(aR.put _ _).bind fun _=>aR.dB a _ _ _
    ·split
     ·exact aR.dB a _ _ _
     ·exact aR.stop _ (by decide)
    ·exact aR.stop _ (by decide)
theorem aR.gg{f:cT}(a:gJ f):∀l s,aR (gg f l s)
 |[],s=>aR.ret _
 |x::r,s=>(a.whole x s).bind fun s=>aR.gg a r s
theorem aR.eB(a:gJ cI)(c:Nat)(s:List Nat):aR (eB cI c s):=by
 refine(aR.cell c).bind fun x=> ?_
 split
 ·split
  ·exact aR.ret _
  ·exact aR.gg a _ _
 ·exact aR.ret _
theorem aR.kf(a:gJ cI)(c:Nat)(s:List Nat):aR (kf cI c s):=(a.force c).bind fun c=>aR.eB a c s
theorem aR.reads{f:cT}(c:gJ f):∀l s r,aR (reads f l s r)
 |[],s,r=>aR.ret _
 |x::q,s,r=>(c.read x s r).bind fun a=>(aR.reads c q _ _).bind fun b=>aR.ret _
theorem aR.fm(a:gJ cI)(c:Nat)(s:List Nat)(r:Nat):aR (fm cI c s r):=by
 refine(aR.cell c).bind fun x=> ?_
 split
 ·exact aR.ret _
 ·exact aR.ret _
 ·exact(aR.reads a _ _ _).bind fun b=>aR.ret _
 ·split
  ·exact aR.ret _
  ·exact aR.ret _
theorem aR.iP{f:cT}(a:gJ f)(c:Nat)(s:List Nat)(r:Nat):aR (iP f c s r):=by
 unfold Mo.iP
 split
 ·exact aR.ret _
 ·exact(a.force c).bind fun c=>aR.fm a c s _
theorem gJ.next(a:gJ cI)(rs:cU)(b:∀s,(rs s).length≤1000):gJ (next rs cI):=
 ⟨aR.jo a,aR.iO a,aR.hb a rs b,aR.h9 a,aR.kf a,aR.iP a⟩
theorem gJ.aB(rs:cU)(a:∀s,(rs s).length≤1000):∀g,gJ (aB rs g)
 |0=>⟨fun _ st r h=>(by cases h),fun _ _ st r h=>(by cases h),fun _ _ st r h=>(by cases h),fun _ _ _ st r h=>(by cases h),fun _ _ st r h=>(by cases h),fun _ _ _ st r h=>(by cases h)⟩
 |g+1=>(gJ.aB rs a g).next rs a
theorem aR.runs{m:Nat→M cW}(h:∀g,aR (m g)){r:Mo.ei cW}(a:aG m ap r):xK r:=by
 obtain⟨G,a⟩:=a
 exact h G ap r (a G (a9 _))
theorem Lt(e:∀s,(aD s).length≤1000){d:Nat}(f:∀c,aR (gI c))(h:aG (fun g=>hv (aB aD g) gI aM) ap ie):xK ie:=by
 refine aR.runs (fun g=> ?_) h
 have b:=gJ.aB aD e g
 exact(aR.later _ _).bind fun c=>((((b.force _).bind fun c=>(f c).bind fun _=>aR.eB b _ _)).bind fun _=>(b.read _ _ _).bind fun a=>aR.ret _).bind fun t=>aR.ret _
end Go.Proofs.YthnogncknmhgoaaGreat.Vm
