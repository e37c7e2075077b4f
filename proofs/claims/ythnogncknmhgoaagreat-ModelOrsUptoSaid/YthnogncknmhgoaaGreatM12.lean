/- Lemmas for ModelOrs (13 of 15). No conditions. -/
import Derived.RangeFuncNested
import Derived.RangeFuncBound
import Derived.RangeFuncCalls
import Derived.RangeFuncLeaves
import Derived.Test.YthnogncknmhgoaaGreatM11
import Derived.Test.YthnogncknmhgoaaGreatM3
import Derived.Test.YthnogncknmhgoaaGreatM5
set_option linter.all false
set_option maxRecDepth 100000
set_option maxHeartbeats 485000000
open Go.Proofs.Tryz
namespace Go.Proofs.YthnogncknmhgoaaGreat.Vm
open ChangeShapes WideShapes ChangeAt RowKit bq Data Mo
variable{cj:Act}{Dq:Array Tmp}{hg:Array Vl}{lG:Ending→Wd→Prop}{dy:Exit→Act→Wd→Prop}{dx:Func}{bk:FuncId}{aj:LV}{cC:List Int}{ae ao:Nat}{rY:Operand}{bC:Ty}{cW:Type}{az:Vl}{hF:Vl→Wd→Prop}{ah bR:Wd}{qe:Wd→Wd→Prop}
section
attribute [local go_sem] Oper.semAt_some
theorem yd{R w0:Wd}(c:∀b o u,R.cell? ⟨b,o,none⟩=some u→b<w0.heap.size)(A B:Wd)(a:Below w0.heap.size A B)(h:mN R A):mN R B:=fun b o u hu=>(a.cell (p:=⟨b,o,none⟩) (c b o u hu)).trans (h b o u hu)
theorem Mp(g:∀b o u,ah.cell? ⟨b,o,none⟩=some u→b<bR.heap.size)(j:Ty.Cs ah bC aj)(F:g3 bC)(a:Nat)(w:Wd)(z:mN ah w)(i:bR.heap.size≤w.heap.size)(f:w.heap[a]?=some (Obj.cells aj.toArray 89)):
 SeqStopsK Fence.wide 4 prog 118 #[.pointer (some ⟨a,0,none⟩)] Pt.g5 (iE bR.heap.size) (fun xs:List (Pt ah)=>xs.map Pt.ty=iD bC) (fun _=>True) (iD bC).length w:=by
 intro l J H W d r _ x n
 have q:a<w.heap.size:=(Array.getElem?_eq_some_iff.1 f).1
 have v:=d.size
 have c:W.heap[a]?=some (Obj.cells aj.toArray 89):=(d.block a q).trans f
 have C:mN ah W:=yd g w W (d.mono i) z
 obtain⟨k,s,m,ys⟩:=bC
 have E:=j
 obtain⟨A,cap,rfl,_⟩:=j
 have I:W.cell? ⟨a,0,none⟩=some (zI k):=by simp[World.cell?,c]
 have c1:W.cell? ⟨a,1,none⟩=some (.string s):=by simp[World.cell?,c]
 have c2:W.cell? ⟨a,2,none⟩=some (zI m):=by simp[World.cell?,c]
 have c3:W.cell? ⟨a,3,none⟩=some (.slice A ys.length cap):=by simp[World.cell?,c]
 refine callsIn_of_wp func118 rfl trivial ?_ rfl
 simp only[ntmps118,List.size_toArray,List.length_cons,List.length_nil,Nat.reduceAdd,Nat.reduceSub,Array.replicate_succ,Array.replicate_zero,List.push_toArray,List.append_toArray,List.nil_append,List.cons_append]
 gi_wp2_with fail
 refine⟨trivial,(Mn (n₀:=bR.heap.size) (NN:=(iD (.mk k s m ys)).length) (B:=W.heap.size) (l:=l) (Ty.mk k s m ys).size 3 r (fun A B y h=>yd g A B y h) x E F (Nat.le_refl _) [] (by simp) W C (Nat.le_trans i v) n).mono ?_⟩
 rintro e W' (⟨rfl,xs,G,t,_⟩|⟨rfl,p,D⟩)
 ·gi_wp2_with fail
  go_end0
  exact⟨⟨_,rfl⟩,.inl ⟨xs,G,t⟩⟩
 ·gi_wp2_with fail
  go_end0
  exact⟨⟨_,rfl⟩,.inr ⟨p,trivial,D⟩⟩
theorem Dn(w:Wd)(a b c d:Vl):Calls prog 115 #[.agg #[a,b,c,d]] w fun e f=>e= .returned (.func (.func 118) #[] #[.pointer (some ⟨w.heap.size,0,none⟩)])∧f=w.alloc (.cells #[a,b,c,d] 89):=by
 go_enter func115,ntmps115
 go_wp2_with fail
 all_goals go_ret
 all_goals exact⟨rfl,rfl⟩
theorem bd.Mq(h:∀w,mN ah w→Calls prog bk aj.toArray w fun E d=>Below w.heap.size w d∧∃v,E= .returned v∧∀R',Sub (Data.part d (cg w.heap.size none)) R'→hF v R'):bd bk aj ah hF:=by
 intro w ad e
 have l:((aj.map AV.val).map (AV.den ad)).toArray=aj.toArray:=by rw[List.map_map];congr 1;exact List.map_id'' (fun _=>rfl) aj
 rw[l]
 refine(h w (fun b o u hu=>(e.b9 b o u hu).1)).mono ?_
 rintro E d ⟨a,v,rfl,q⟩
 have p:∀b o u,ah.cell? ⟨b,o,none⟩=some u→b<w.heap.size:=fun b o u hu=>World.block_lt_of_cell? w _ (e.b9 b o u hu).1
 refine⟨v,[],[],sT ah d w.heap.size,rfl,⟨a.os,a.tape,a.output,a.size,fun b f _=>a.block b f,fun b o u f hu=> ?_,fun b o u hu=> ?_⟩,⟨fun k T cs g=>(by cases g),fun i j n=>(by cases n),fun r c=>(by cases c),fun r c=>(by cases c),List.Pairwise.nil,fun b o u hu=>⟨?_,fun k g=>(by cases g),fun r c=>(by cases c)⟩⟩,rfl,fun r c=>(by cases c),rfl,q _ ?_⟩
 ·rw[mY _ _ _ _ _ a.size,if_pos f] at hu
  exact .inl hu
 ·rw[mY _ _ _ _ _ a.size,if_pos (p b o u hu)]
  exact hu
 ·rw[mY _ _ _ _ _ a.size] at hu
  split at hu
  ·exact jz a (a9 _) (e.b9 b o u hu).1
  ·exact hu
 ·intro b o u hu
  rw[uU] at hu
  split at hu
  ·rename_i m
   rw[mY _ _ _ _ _ a.size,if_neg (by have:=(sz.1 m).1;omega)]
   exact hu
  ·cases hu
theorem Mr{b:Int}(h:a6 dU 1 ah az cC):Calls prog 116 #[az,zI b] ah fun E W'=>E= .returned (.bool (decide (b∈cC)))∧Below ah.heap.size ah W':=by
 refine(Mk (R:=ah) (X:=⟨bH,bH⟩) (b:=b) h ah ?_ ?_).mono ?_
 ·exact⟨fun k T cs d=>(by cases d),fun i j g=>absurd g (Nat.not_lt_zero _),fun r a=>(by cases a),fun r a=>(by cases a),List.Pairwise.nil,fun b o u hu=>⟨hu,fun k d=>absurd d (Nat.not_lt_zero _),fun r a=>(by cases a)⟩⟩
 ·exact⟨fun b ob c=>(by cases c),fun b ob c=>(by cases c),fun b c=>rfl,fun b c k d=>absurd d (Nat.not_lt_zero _),fun b c r a=>(by cases a),fun b c=>absurd rfl c⟩
 ·rintro E W' ⟨l,R',X',-,e,-,-,-,-,-,-,rfl,-,az,rfl,rfl⟩
  exact⟨rfl,e.os,e.tape,e.output,e.size,fun k d=>e.g6 k d (by rintro(f|⟨r,a,-⟩);exact f rfl;cases a)⟩
namespace Rf
variable{P:Program}
abbrev Dp (P:Program) (fn:Func) (R:Ending→World→Prop):Exit→Act→World→Prop:=bodyPostM Fence.wide 5 P fn R
theorem Ms{c:Code}(b:P.funcs[bk]?=some dx)(a:dx.body=some c)
 (h:c.wp P (Dp P dx lG) {tmps:=hg++Array.replicate (dx.ntmps -hg.size) undef,defers:=[]} ah):Calls P bk hg ah lG:=
 (callsIn_wide (n:=5)).1 (callsIn_of_wp_marks (F:=Fence.wide) b a trivial ((wpIn_wide (n:=5)).2 h) rfl)
theorem Mt(c:cj.defers=[{target:= .collected ae,args:=#[]}])(b:ah.heap[ae]?=some (.deferred (some [])))(d:∀a,(results dx cj.tmps).run P a= .ok az a)(h:lG (.returned az) (ah.putObj ae (.deferred none))):Dp P dx lG .ret cj ah:=by
 show LeavesInM Fence.wide 5 P dx cj.tmps lG cj.defers .returning ah
 rw[c]
 exact⟨by simp,.inl ⟨ae,_,rfl,run_takeDeferred b,⟨az,d _,h⟩⟩⟩
theorem Mu(c:Below ae ah bR)(a:ae≤bR.heap.size)(b:ae≤ao):Below ae ah (bR.putObj ao (.deferred none)):=
 c.grown (grownBy_putObj' bR ao _) a (fun k e=>by cases e;exact b)
theorem Mw{assign body:Code}{gf:Nat}{lb:Array Vl}
 (w:cj.eval rY= .func (.func gf) #[] lb) (f:∀args ah,(callFunc gf args).run P ah= .ok (.enter gf args) ah)
 {d:cW→Array Vl} {S e:List cW→Prop} (z:SeqStopsK Fence.wide 4 P gf lb d qe S e ae ah)
 (m:∀{A B C:Wd},qe A B→qe B C→qe A C) (k:∀(W:Wd) (l:Nat) (o E:Obj),ah.heap.size≤l→W.heap[l]?=some o→o.isCells=false→o.isWalk=false→qe W (W.putObj l E)) (y:∀x,(d x).size=Dq.size)
 (I:List cW→Wd→Prop) (j:OwnFrom ah.heap.size I) (g:I [] ah) (b:cW→Act→Wd→Prop) (i:∀x a,OwnFrom ah.heap.size (fun(_:Unit) W=>b x a W))
 (q:∀(l:Nat) (pre:List cW) (x:cW) (W:Wd) (K:Act→Wd→Prop),I pre W→(∀a W',KeepsFrom ah.heap.size W W'→qe W W'→I pre W'→b x a W'→K a W')→
   assign.wpIn (Fence.wide.inRound l) 3 P (Exit.then K (fun _ _ _=>False)) {tmps:=(Dq.zip (d x)).foldl (fun t (p,v)=>t.setIfInBounds p v) cj.tmps,defers:=[]} W)
 (s:∀(l:Nat) (pre:List cW) (x:cW) (a:Act) (W:Wd),ah.heap.size≤l→(∃r,W.heap[l]?=some (.loop r))→I pre W→b x a W→pre.length<ae→body.wpIn (Fence.wide.inRound l) 3 P (ownPostG ah.heap.size qe I (fun _ _ _=>False) (pre++ [x]) W) a W)
 (u:∀(D:Nat) (xs:List cW) (W:Wd),ah.heap.size≤D→S xs→I xs W→W.heap[D]?=some (.deferred (some []))→dy .normal {cj with defers:={target:= .collected D,args:=#[]}::cj.defers} W):
 (Code.rangeFunc rY Dq assign body).wp P dy cj ah:=
 (wpIn_wide (n:=5)).1 (wpIn_rangeFunc_ownH (F:=Fence.wide) (n:=5) rfl (by omega) w trivial f z m k (Below.refl _ _) y I (fun _ _ _=>False) j (fun _ _ _ _ _ h=>h.elim) g b i q s u
   (fun D c pre W _ _ h=>h.elim))
end Rf
end
section
attribute [local go_sem] Oper.semAt_some
def g4 {R:World} (xs:List (Pt R)):List Int:=(xs.map Pt.ty).foldl kl []
theorem Mx(xs:List (Pt ah))(x:Pt ah):g4 (xs++ [x])=kl (g4 xs) x.ty:=by simp[g4,List.foldl_append]
theorem ye{R:Wd}:∀l:List Int,aL dU R l (l.map (Value.int .i64))
 |[]=>rfl
 |a::l=>⟨[zI a],l.map (Value.int .i64),rfl,rfl,ye l⟩
theorem My(h:ah.ownsRow ae 3 1 az cC.length (cC.map (Value.int .i64)))(c:cC.length≤490000000):a6 dU 1 ah az cC:=by
 obtain⟨A,cap,rfl,a,b⟩:=bq.oU h
 exact⟨A,cap,rfl,⟨a,b,c,bq.oV h⟩,_,bq.Src.k0 h,ye cC⟩
theorem yf(xs:List (Pt ah)):(g4 xs).length≤1000:=by
 have b:=xT (l:=xs.map Pt.ty) (acc:=[]) List.nodup_nil (fun x a=>by cases a) (fun u hu=>by
  obtain⟨x,-,rfl⟩:=List.mem_map.1 hu
  exact x.2.2)
 exact se b.1 fun x a=>b.2 x a
theorem uG:C9:=by
 intro R v t a8 B
 obtain⟨A,cap,rfl,hh,ao⟩:=a8
 refine bd.Mq fun w y=> ?_
 obtain⟨b,o,c,rfl,aF,U⟩:=a5.get a2 ao 0 (by simp)
 have aI:=aF
 obtain⟨k,s,m,ys⟩:=t
 obtain⟨H,I,rfl,_⟩:=aF
 have an:∀b o u,R.cell? ⟨b,o,none⟩=some u→b<w.heap.size:=fun b o u hu=>World.block_lt_of_cell? w _ (y b o u hu)
 have T:b<w.heap.size:=an _ _ _ (U 0 _ rfl)
 have az:=y _ _ _ (U 0 _ rfl)
 have g1:=y _ _ _ (U 1 _ rfl)
 have g2:=y _ _ _ (U 2 _ rfl)
 have aA:=y _ _ _ (U 3 _ rfl)
 simp only[Nat.zero_mul,Nat.add_zero] at az g1 g2 aA
 have a6:=Dm (b:=b) (o:=o) (c:=cap) jc (i:=0) (n:=1) (by omega)
 simp only[Nat.zero_mul,Nat.add_zero] at a6
 refine Rf.Ms func109 rfl ?_
 simp only[ntmps109,List.size_toArray,List.length_cons,List.length_nil,Nat.reduceAdd,Nat.reduceSub,Array.replicate_succ,Array.replicate_zero,List.push_toArray,List.append_toArray,List.nil_append,List.cons_append]
 go_wp2_with (go_at_call 115;refine(Dn _ _ _ _ _).mono ?_;rintro e aJ ⟨rfl,rfl⟩)
 refine wp_loop_rounds 2 ?_
 rw[rounds_succ]
 have aM:=Boxed.new w 51 (zS)
 have f0:=((Below.refl _ w).alloc (a9 _) (.cells #[zS] 51)).cell (p:=⟨b,0+o,none⟩) T
 have O:Below w.heap.size w (w.alloc (.cells #[zS] 51)):=(Below.refl _ w).alloc (a9 _) _
 have bA:=(O.cell (p:=⟨b,o,none⟩) T).trans az
 have bB:=(O.cell (p:=⟨b,o+1,none⟩) T).trans g1
 have bC:=(O.cell (p:=⟨b,o+2,none⟩) T).trans g2
 have bD:=(O.cell (p:=⟨b,o+3,none⟩) T).trans aA
 clear f0
 go_wp2_with (go_at_call 115;refine(Dn _ _ _ _ _).mono ?_;rintro e aJ ⟨rfl,rfl⟩)
 have aB:Below w.heap.size w (((w.alloc (.cells #[zS] 51)).alloc (.cells #[zI k,.string s,zI m,.slice H ys.length I] 89)).alloc (.cells #[zI k,.string s,zI m,.slice H ys.length I] 89)):=(O.alloc (by simp) _).alloc (by simp;omega) _
 change Ty.Cs R (.mk k s m ys) _ at aI
 refine Rf.Mw (gf:=118) (lb:=#[.pointer (some ⟨w.heap.size+1+1,0,none⟩)]) ?g1 (enters_of func118 (by kernel_rfl) rfl)
  (Mp an aI B (w.heap.size+1+1) _ (yd an (w0:=w) _ _ aB y) (by simp;omega) ?g2) iE.trans (iE.put (by simp;omega)) (fun _=>rfl)
  (fun xs W=>(∃v,Boxed W w.heap.size 51 v∧W.ownsRow w.heap.size 3 1 v (g4 xs).length ((g4 xs).map (Value.int .i64))∧True)∧Below w.heap.size w W) ?I1 ?I3
  (fun x N W=>∃p,w.heap.size<p∧W.heap[p]?=some (Obj.cells x.1.2.toArray 89)∧N={tmps:=#[.slice (some ⟨b,o,none⟩) 1 cap,undef,zS,.pointer (some ⟨w.heap.size,0,none⟩),undef,.pointer (some ⟨w.heap.size+1,0,none⟩),.pointer (some ⟨p,0,none⟩),.slice (some ⟨b,o,none⟩) 1 cap,zI 1,zI 0,.bool true,.pointer (some ⟨b,o,none⟩),.agg #[zI k,.string s,zI m,.slice H ys.length I],.agg #[zI k,.string s,zI m,.slice H ys.length I],.func (.func 118) #[] #[.pointer (some ⟨w.heap.size+1+1,0,none⟩)],.agg x.1.2.toArray,undef,undef,undef,undef,undef,undef,undef,undef,undef,undef,undef,undef,undef,undef,undef,undef,undef],defers:=[]}) ?I4 ?asg ?body ?done
 case g1=>rfl
 case g2=>
  have:=World.alloc_heap_new ((w.alloc (.cells #[zS] 51)).alloc (.cells #[zI k,.string s,zI m,.slice H ys.length I] 89)) (.cells #[zI k,.string s,zI m,.slice H ys.length I] 89)
  rw[World.size_alloc,World.size_alloc] at this
  exact this
 case I1=>exact OwnFrom.and (Own.from (holdsRow_own w.heap.size w.heap.size 51 3 1 (fun pre:List (Pt R)=>(g4 pre).length) (fun pre=>(g4 pre).map (Value.int .i64)) (fun _ _=>True)) _) (ownFrom_below (Nat.le_refl _) (by simp;omega))
 case I3=>exact⟨⟨_,(aM.alloc _).alloc _,World.ownsRow_nil _ _ _ _,trivial⟩,aB⟩
 case I4=>
  rintro x N _ X Y row ⟨p,aR,ai,h3⟩ a0 ao
  refine⟨p,aR,(a0.block p (Array.getElem?_eq_some_iff.1 ai).1 fun e=> ?_).trans ai,h3⟩
  obtain⟨-,bv,aG,aE⟩:=ao p e.symm
  rw[ai] at aG
  cases aG
  simp[Obj.isCells] at aE
 case asg=>
  rintro l pre ⟨⟨xt,bm⟩,F,ab⟩ W K aW Q
  obtain⟨G,xs,f,M⟩:=xt
  have ar:=F
  obtain⟨av,ax,au,_⟩:=ar
  subst au
  simp only[Pt.g5]
  have hh:=Lib.hid Q
  clear Q
  gi_wp2
  obtain⟨⟨v,aa,aq,-⟩,j⟩:=aW
  have aY:w.heap.size<W.heap.size:=aa.lt
  have ad:=World.grownBy_alloc W (Obj.cells #[zI G,.string xs,zI f,.slice av M.length ax] 89) none
  refine(show∀N W',_→_→_→_→K N W' from hh) _ _ (KeepsFrom.of_grownBy ad (by simp)) ⟨(Below.refl _ _).alloc (by omega) _,fun b a p q=>(ad.block b (Array.getElem?_eq_some_iff.1 q).1 (by simp)).trans q⟩ ⟨⟨v,aa.alloc _,aq.alloc _,trivial⟩,j.alloc (by omega) _⟩ ⟨W.heap.size,aY,World.alloc_heap_new _ _,rfl⟩
 case body=>
  rintro l pre ⟨⟨xt,bm⟩,F,ab⟩ N W _ _ ⟨⟨v,B,J,-⟩,j⟩ ⟨p,_,af,rfl⟩ _
  obtain⟨G,xs,f,M⟩:=xt
  have ar:=F
  obtain⟨av,ax,au,_⟩:=ar
  subst au
  have ba:=My J (by have:=yf pre;omega)
  have bw:W.cell? ⟨p,0,none⟩=some (zI G):=by simp[World.cell?,af]
  have bx:W.cell? ⟨p,2,none⟩=some (zI f):=by simp[World.cell?,af]
  have bh:=B.cell
  have L:=Mx pre ⟨(.mk G xs f M,_),F,ab⟩
  by_cases am:G=3
  ·subst am
   gi_wp2_with fail
   refine⟨trivial,((callsIn_wide.2 (Mr ba)).inRound l).mono ?_⟩
   rintro E h ⟨rfl,d⟩
   have ag:Boxed h w.heap.size 51 v:=(d.block _ B.lt).trans B
   have V:=mg J d (a9 _)
   have ac:Below w.heap.size w h:=j.trans (d.mono j.size)
   have be:h.heap[p]?=_:=(d.block p (Array.getElem?_eq_some_iff.1 af).1).trans af
   have bz:h.cell? ⟨p,2,none⟩=some (zI f):=by simp[World.cell?,be]
   have bu:=ag.cell
   have bn:w.heap.size≤h.heap.size:=ac.size
   by_cases ae:f∈g4 pre
   ·rw[decide_eq_true ae]
    gi_wp2_with fail
    have Z:kl (g4 pre) (Pt.ty ⟨(.mk 3 xs f M,_),F,ab⟩)=g4 pre:=by simp[kl,Pt.ty,Ty.k,Ty.n,ae]
    rw[Z] at L
    refine⟨KeepsFrom.of_grownBy (row:=none) ⟨d.os,d.tape,d.output,d.size,fun i al _=>d.block i al⟩ (by simp),⟨d.mono j.size,fun b a p q=>(d.block b (Array.getElem?_eq_some_iff.1 q).1).trans q⟩,⟨v,ag,by rw[L];exact V,trivial⟩,ac⟩
   ·rw[decide_eq_false ae]
    have Z:kl (g4 pre) (Pt.ty ⟨(.mk 3 xs f M,_),F,ab⟩)=g4 pre++ [f]:=by simp[kl,Pt.ty,Ty.k,Ty.n,ae]
    rw[Z] at L
    have bs:=yf pre
    obtain⟨aK,aN,rfl,_⟩:=oU V
    have a1:(g4 pre).length+1≤maxLen:=by unfold maxLen;omega
    have a3:((g4 pre).length+1)*8≤140737488355328:=by omega
    obtain⟨i0,a4,bj,bk,bl⟩:=info_parts (P:=prog) (e:=3) (z:=zI 0) (size:=1) (bytes:=8) (by kernel_rfl)
    gi_wp2_with (gi_at_builtin;refine wpListIn_append_own _ rfl _ _ 51 rfl w.heap.size 3 i0 (zI 0) 1 8 (by kernel_rfl) a4 bj bk bl rfl (by decide) _ _ _ rfl (V.alloc _) ⟨h.heap.size,0,none⟩ 1 1 [zI f] rfl rfl (cell_one_new _ _ _) (by simp[Value.oneCell']) a1 a3 (by simp;omega) ?_;intro bE ah aH ak _;obtain⟨ay,aw,rfl⟩:=ownsRow_succ aH;obtain⟨aa,aq,bf,a7,aD⟩:=ag.appended (by decide) V ac.size (Nat.le_refl _) aH ak;have aE:=aa.cell;have bp:=aa.frozen)
    have aX:∀(b:Nat) (a:Array Vl) (q:Nat×Nat),h.heap[b]?=some (Obj.cells a 89 q)→(ah.setCell ⟨w.heap.size,0,none⟩ (.slice (some ⟨ay,0,none⟩) ((g4 pre).length+1) aw)).heap[b]?=some (Obj.cells a 89 q):=by
     intro b a q r
     have bb:b<h.heap.size:=(Array.getElem?_eq_some_iff.1 r).1
     have bc:b<(h.alloc (Obj.cells #[zI f] 3)).heap.size:=by simp;omega
     have bt:=ak.size
     have e1:(h.alloc (Obj.cells #[zI f] 3)).heap[b]?=h.heap[b]?:=((Below.refl _ h).alloc (a9 _) _).block b bb
     have ad:(h.alloc (Obj.cells #[zI f] 3)).grownBy ah (Value.slice aK (g4 pre).length aN).ownBlock:=ak
     have e2:ah.heap[b]?=(h.alloc (Obj.cells #[zI f] 3)).heap[b]?:=ad.block b bc (fun e=>by
      rcases V.2 with⟨C,_⟩|⟨g,aP,aQ,C,_,aj,_⟩
      ·rw[C] at e;simp[Value.ownBlock] at e
      ·rw[C] at e
       obtain rfl:b=g:=by simpa[Value.ownBlock] using e
       rw[aj] at r
       cases r)
     have e3:=(grownBy_setCell' ah w.heap.size (.slice (some ⟨ay,0,none⟩) ((g4 pre).length+1) aw)).block b (by omega) (fun e=>by
      obtain rfl:b=w.heap.size:=by simpa using e
      have:=ag
      unfold Boxed at this
      rw[this] at r
      cases r)
     rw[e3,e2,e1,r]
    refine⟨?_,⟨(d.mono j.size).trans aD,fun b a q r=>aX b a q ((d.block b (Array.getElem?_eq_some_iff.1 r).1).trans r)⟩,⟨_,aq,by rw[L];simpa using bf,trivial⟩,ac.trans aD⟩
    exact(KeepsFrom.of_grownBy (row:=none) ⟨d.os,d.tape,d.output,d.size,fun i al _=>d.block i al⟩ (by simp)).trans (a7.from _)
  ·have br:(G==3)=false:=by simpa using am
   have Z:kl (g4 pre) (Pt.ty ⟨(.mk G xs f M,_),F,ab⟩)=g4 pre:=by simp[kl,Pt.ty,Ty.k,Ty.n,am]
   rw[Z] at L
   gi_wp2_with fail
   refine⟨trivial,?_⟩
   gi_wp2_with fail
   exact⟨KeepsFrom.refl _ _,iE.refl _ _,⟨v,B,by rw[L];exact J,trivial⟩,j⟩
 case done=>
  rintro D xs W aU bi ⟨⟨v,B,J,-⟩,j⟩ Q
  have bh:=B.cell
  have HK:=Lib.hid Q
  clear Q
  go_wp2_with fail
  rw[rounds_succ]
  go_wp2_with fail
  have aZ:g4 xs=varsOf (.mk k s m ys):=by unfold g4 varsOf;rw[bi]
  have aV:w.heap.size≤D:=Nat.le_trans (by simp;omega) aU
  have bo:D<W.heap.size:=(Array.getElem?_eq_some_iff.1 HK.out).1
  have hle:=yf xs
  refine Rf.Mt rfl HK.out (fun aJ=>results_tmp rfl _ _ _) ⟨Rf.Mu j j.size aV,_,rfl,fun R' bg=> ?_⟩
  have ap:(W.putObj D (.deferred none)).ownsRow w.heap.size 3 1 v (g4 xs).length ((g4 xs).map (Value.int .i64)):=J.kept (grownBy_putObj' W D _) (.inr fun e=>by
   rcases J.2 with⟨C,_⟩|⟨g,aP,aQ,C,_,aj,_⟩
   ·rw[C] at e;simp[Value.ownBlock] at e
   ·rw[C] at e
    obtain rfl:g=D:=by simpa[Value.ownBlock] using e
    have:=HK.out
    rw[aj] at this
    cases this)
  obtain⟨aL,aO,rfl,aS,aT⟩:=bq.oU ap
  rw[←aZ]
  exact⟨aL,aO,rfl,⟨aS,aT,by omega,bq.oV ap⟩,aC cP ⟨_,yH (S:=cg w.heap.size none) ap (fun k y=>sz.2 ⟨y,by simp⟩),ye _⟩ bg⟩
end
end Go.Proofs.YthnogncknmhgoaaGreat.Vm
namespace Go.Proofs.YthnogncknmhgoaaGreat.Vm
open ChangeShapes WideShapes ChangeAt RowKit bq Data Lx
variable{ae:Nat}{aA:OA}{aH:TypeId}{ah:Wd}
section
variable{C:er}{Q:Exit→Act→Wd→Prop}{S:St}{R:Wd}{K:Nat→Bool}{ty:TypeId}
theorem hf{x y:Operand}{p q v:Vl}(e:ev S x=some (.val p))(f:ev S y=some (.val q))(h:∀W,(Instr.index aH p q).run prog W= .ok v W):bO K S R (.index aH x y) ty (.val v):=
 bO.of fun ad a W dst pos af g d i=>by
  have b:=d.eval e
  have c:=d.eval f
  simp only[AV.den] at b c
  have:=h W
  simp only[execOp,b,c]
  rw[Sem.run_bind,this]
  rfl
theorem mb{x y z:Operand}{p q r v:Vl}(e:ev S x=some (.val p))(f:ev S y=some (.val q))(g:ev S z=some (.val r))(h:∀W,(Instr.sliceAt aH p (some q) (some r) none).run prog W= .ok v W):bO K S R (.slice aH x (some y) (some z) none) ty (.val v):=
 bO.of fun ad a W dst pos af i b j=>by
  have c:=b.eval e
  have d:=b.eval f
  have h3:=b.eval g
  simp only[AV.den] at c d h3
  have:=h W
  simp only[execOp,c,d,h3,Option.map_some,Option.map_none]
  rw[Sem.run_bind,this]
  rfl
end
theorem oO:aF 58:=by unfold aF;kernel_rfl
theorem yg:aF 59:=by unfold aF;kernel_rfl
theorem nJ:aF 79:=by unfold aF;kernel_rfl
theorem Dr:aF 82:=by unfold aF;kernel_rfl
theorem Mz:aF 83:=by unfold aF;kernel_rfl
theorem MA:aF 99:=by unfold aF;kernel_rfl
theorem MB:prog.underlying 105=some (.slice 9):=by kernel_rfl
theorem sj:c7 105 9 1:=by unfold c7;kernel_rfl
def qf:List Tk:=[⟨1,⟨#[]⟩,0,1,1⟩,⟨4,⟨#[49]⟩,1,1,1⟩,⟨6,⟨#[63]⟩,0,1,3⟩,⟨4,⟨#[50]⟩,2,1,5⟩,⟨0,⟨#[]⟩,0,1,6⟩]
def gR:List Tk:=[⟨4,⟨#[49]⟩,1,1,1⟩,⟨6,⟨#[63]⟩,0,1,3⟩,⟨4,⟨#[50]⟩,2,1,5⟩,⟨0,⟨#[]⟩,0,1,6⟩]
theorem MC(b:5≤ae)(c:ae≤9223372036854775807)(h3:aA=none→ae=0)(h:Src ah 5 aA 5 (gT qf)):cE ah aA ae qf:=
 ⟨aA,ae,rfl,b,c,by decide,h3,h,by intro t a;simp only[qf,List.mem_cons,List.not_mem_nil,or_false] at a;rcases a with rfl|rfl|rfl|rfl|rfl<;>decide⟩
theorem MD(b:4≤ae)(c:ae≤9223372036854775807)(h3:aA=none→ae=0)(h:Src ah 5 aA 4 (gT gR)):cE ah aA ae gR:=
 ⟨aA,ae,rfl,b,c,by decide,h3,h,by intro t a;simp only[gR,List.mem_cons,List.not_mem_nil,or_false] at a;rcases a with rfl|rfl|rfl|rfl<;>decide⟩
theorem ME:bd 58 [.string ⟨#[49,32,63,32,50]⟩,zI 0,.string ⟨#[45,45]⟩] ah fun v R'=>R'=ah∧v= .bool false:=by
 refine b5 func58 rfl ntmps58 rfl rfl fun w G ad=> ?_
 refine sV 21 rfl (dJ rfl rfl rfl (vp (mb (v:= .string ⟨#[49,32]⟩) rfl rfl rfl (fun W=>by kernel_rfl)) rfl (rL 1 rfl (dJ rfl rfl rfl (vp (gV (v:= .bool false) rfl rfl (fun W=>by kernel_rfl)) rfl (rL 5 rfl ?_))))))
 refine cH results58 (aT rfl) ⟨rfl,rfl,rfl⟩
theorem yh:bd 79 [.int .u8 49] ah fun v R'=>R'=ah∧v=zI 3:=by
 refine b5 func79 rfl ntmps79 rfl rfl fun w G ad=> ?_
 refine sV 52 rfl ?_
 refine cH results79 (aT rfl) ⟨rfl,rfl,rfl⟩
theorem MF:bd 79 [.int .u8 32] ah fun v R'=>R'=ah∧v=zI 4:=by
 refine b5 func79 rfl ntmps79 rfl rfl fun w G ad=> ?_
 refine sV 62 rfl ?_
 refine cH results79 (aT rfl) ⟨rfl,rfl,rfl⟩
theorem MG:bd 82 [.string ⟨#[49]⟩] ah fun v R'=>R'=ah∧v= .tuple #[zI 1,.bool true]:=by
 refine b5 func82 rfl ntmps82 rfl rfl fun w G ad=> ?_
 refine sV 64 rfl (vp (hf (v:= .int .u8 49) rfl rfl (fun W=>by kernel_rfl)) rfl ?_)
 refine be (yh) nJ rfl rfl ?_
 rintro _ rfl
 refine rL 8 rfl (vp (gV (v:=zI 0) rfl rfl (fun W=>by kernel_rfl)) rfl (rL 2 rfl (vp (hf (v:= .int .u8 49) rfl rfl (fun W=>by kernel_rfl)) rfl (vp (yJ (v:=zI 49) rfl (fun W=>by kernel_rfl)) rfl (rL 45 rfl ?_)))))
 refine cB results82 (aT rfl) (aT rfl) ⟨rfl,rfl,rfl⟩
theorem MH:bd 59 [.string ⟨#[49,32,63,32,50]⟩,zI 0] ah fun v R'=>R'=ah∧v= .agg #[zI 4,.string ⟨#[49]⟩,zI 1,zI 0,zI 0]:=by
 refine b5 func59 rfl ntmps59 rfl rfl fun w G ad=> ?_
 refine sV 9 rfl (vp (hf (v:= .int .u8 49) rfl rfl (fun W=>by kernel_rfl)) rfl ?_)
 refine be (yh) nJ rfl rfl ?_
 rintro _ rfl
 refine rL 44 rfl (dJ rfl rfl rfl (vp (hf (v:= .int .u8 49) rfl rfl (fun W=>by kernel_rfl)) rfl (dJ rfl rfl rfl ?_)))
 refine be (yh) nJ rfl rfl ?_
 rintro _ rfl
 refine rL 25 rfl (dJ rfl rfl rfl (vp (hf (v:= .int .u8 32) rfl rfl (fun W=>by kernel_rfl)) rfl (dJ rfl rfl rfl ?_)))
 refine be (MF) nJ rfl rfl ?_
 rintro _ rfl
 refine rL 15 rfl (vp (mb (v:= .string ⟨#[49]⟩) rfl rfl rfl (fun W=>by kernel_rfl)) rfl ?_)
 refine be (MG) Dr rfl rfl ?_
 rintro _ rfl
 refine rL 22 rfl (vp (mb (v:= .string ⟨#[49]⟩) rfl rfl rfl (fun W=>by kernel_rfl)) rfl (rL 1 rfl (vp (bJ (vs:=[(0,zI 4),(1,.string ⟨#[49]⟩),(2,zI 1)]) (v:= .agg #[zI 4,.string ⟨#[49]⟩,zI 1,zI 0,zI 0]) rfl (fun W=>by kernel_rfl)) rfl (rL 5 rfl ?_))))
 refine cH results59 (aK rfl rfl pk) ⟨rfl,rfl,rfl⟩
theorem MI:bd 58 [.string ⟨#[49,32,63,32,50]⟩,zI 2,.string ⟨#[45,45]⟩] ah fun v R'=>R'=ah∧v= .bool false:=by
 refine b5 func58 rfl ntmps58 rfl rfl fun w G ad=> ?_
 refine sV 21 rfl (dJ rfl rfl rfl (vp (mb (v:= .string ⟨#[63,32]⟩) rfl rfl rfl (fun W=>by kernel_rfl)) rfl (rL 1 rfl (dJ rfl rfl rfl (vp (gV (v:= .bool false) rfl rfl (fun W=>by kernel_rfl)) rfl (rL 5 rfl ?_))))))
 refine cH results58 (aT rfl) ⟨rfl,rfl,rfl⟩
theorem MJ:bd 99 [.string ⟨#[61,124,63,60,43,45,42,40,41,95]⟩,.int .u8 63] ah fun v R'=>R'=ah∧v= .bool true:=by
 refine b5 func99 rfl ntmps99 rfl rfl fun w G ad=> ?_
 refine sV 31 rfl (vp (hf (v:= .int .u8 61) rfl rfl (fun W=>by kernel_rfl)) rfl (rL 32 rfl (vp (hf (v:= .int .u8 124) rfl rfl (fun W=>by kernel_rfl)) rfl (rL 32 rfl (vp (hf (v:= .int .u8 63) rfl rfl (fun W=>by kernel_rfl)) rfl (rL 16 rfl ?_))))))
 refine cH results99 (aT rfl) ⟨rfl,rfl,rfl⟩
theorem MK:bd 79 [.int .u8 63] ah fun v R'=>R'=ah∧v=zI 6:=by
 refine b5 func79 rfl ntmps79 rfl rfl fun w G ad=> ?_
 refine sV 71 rfl ?_
 refine be (MJ) MA rfl rfl ?_
 rintro _ rfl
 refine rL 10 rfl ?_
 refine cH results79 (aT rfl) ⟨rfl,rfl,rfl⟩
theorem ML:bd 83 [] ah fun v R'=>∃g:Nat,v= .slice (some ⟨g,0,none⟩) 11 11∧∀j u,([.string ⟨#[61,61]⟩,.string ⟨#[61]⟩,.string ⟨#[124]⟩,.string ⟨#[63]⟩,.string ⟨#[60]⟩,.string ⟨#[43]⟩,.string ⟨#[45]⟩,.string ⟨#[42]⟩,.string ⟨#[40]⟩,.string ⟨#[41]⟩,.string ⟨#[95]⟩]:LV)[j]?=some u→R'.cell? ⟨g,j,none⟩=some u:=by
 refine b5 func83 rfl ntmps83 rfl rfl fun w G ad=> ?_
 refine sV 7 rfl ?_
 refine u7 (vs:=[.string ⟨#[61,61]⟩,.string ⟨#[61]⟩,.string ⟨#[124]⟩,.string ⟨#[63]⟩,.string ⟨#[60]⟩,.string ⟨#[43]⟩,.string ⟨#[45]⟩,.string ⟨#[42]⟩,.string ⟨#[40]⟩,.string ⟨#[41]⟩,.string ⟨#[95]⟩]) (cs:=[.string ⟨#[61,61]⟩,.string ⟨#[61]⟩,.string ⟨#[124]⟩,.string ⟨#[63]⟩,.string ⟨#[60]⟩,.string ⟨#[43]⟩,.string ⟨#[45]⟩,.string ⟨#[42]⟩,.string ⟨#[40]⟩,.string ⟨#[41]⟩,.string ⟨#[95]⟩]) sj rfl rfl rfl rfl rfl rfl rfl ?_
 intro g1 b _ a
 refine rL 4 rfl ?_
 refine cH results83 (aT rfl) ⟨rfl,g1,rfl,fun j u hu=>a j u hu⟩
theorem MM:bd 58 [.string ⟨#[49,32,63,32,50]⟩,zI 2,.string ⟨#[61,61]⟩] ah fun v R'=>R'=ah∧v= .bool false:=by
 refine b5 func58 rfl ntmps58 rfl rfl fun w G ad=> ?_
 refine sV 21 rfl (dJ rfl rfl rfl (vp (mb (v:= .string ⟨#[63,32]⟩) rfl rfl rfl (fun W=>by kernel_rfl)) rfl (rL 1 rfl (dJ rfl rfl rfl (vp (gV (v:= .bool false) rfl rfl (fun W=>by kernel_rfl)) rfl (rL 5 rfl ?_))))))
 refine cH results58 (aT rfl) ⟨rfl,rfl,rfl⟩
theorem MN:bd 58 [.string ⟨#[49,32,63,32,50]⟩,zI 2,.string ⟨#[61]⟩] ah fun v R'=>R'=ah∧v= .bool false:=by
 refine b5 func58 rfl ntmps58 rfl rfl fun w G ad=> ?_
 refine sV 21 rfl (dJ rfl rfl rfl (vp (mb (v:= .string ⟨#[63]⟩) rfl rfl rfl (fun W=>by kernel_rfl)) rfl (rL 1 rfl (dJ rfl rfl rfl (vp (gV (v:= .bool false) rfl rfl (fun W=>by kernel_rfl)) rfl (rL 5 rfl ?_))))))
 refine cH results58 (aT rfl) ⟨rfl,rfl,rfl⟩
theorem MO:bd 58 [.string ⟨#[49,32,63,32,50]⟩,zI 2,.string ⟨#[124]⟩] ah fun v R'=>R'=ah∧v= .bool false:=by
 refine b5 func58 rfl ntmps58 rfl rfl fun w G ad=> ?_
 refine sV 21 rfl (dJ rfl rfl rfl (vp (mb (v:= .string ⟨#[63]⟩) rfl rfl rfl (fun W=>by kernel_rfl)) rfl (rL 1 rfl (dJ rfl rfl rfl (vp (gV (v:= .bool false) rfl rfl (fun W=>by kernel_rfl)) rfl (rL 5 rfl ?_))))))
 refine cH results58 (aT rfl) ⟨rfl,rfl,rfl⟩
theorem MP:bd 58 [.string ⟨#[49,32,63,32,50]⟩,zI 2,.string ⟨#[63]⟩] ah fun v R'=>R'=ah∧v= .bool true:=by
 refine b5 func58 rfl ntmps58 rfl rfl fun w G ad=> ?_
 refine sV 21 rfl (dJ rfl rfl rfl (vp (mb (v:= .string ⟨#[63]⟩) rfl rfl rfl (fun W=>by kernel_rfl)) rfl (rL 1 rfl (dJ rfl rfl rfl (vp (gV (v:= .bool true) rfl rfl (fun W=>by kernel_rfl)) rfl (rL 5 rfl ?_))))))
 refine cH results58 (aT rfl) ⟨rfl,rfl,rfl⟩
theorem MQ:bd 59 [.string ⟨#[49,32,63,32,50]⟩,zI 2] ah fun v R'=>v= .agg #[zI 6,.string ⟨#[63]⟩,zI 0,zI 0,zI 0]:=by
 refine b5 func59 rfl ntmps59 rfl rfl fun w G ad=> ?_
 refine sV 9 rfl (vp (hf (v:= .int .u8 63) rfl rfl (fun W=>by kernel_rfl)) rfl ?_)
 refine be (MK) nJ rfl rfl ?_
 rintro _ rfl
 refine rL 36 rfl ?_
 refine cN (ML) Mz rfl rfl ?_
 rintro _ b _ ⟨c,rfl,a⟩
 refine vp (sP rfl MB) rfl (rL 18 rfl (vp (a3 (i:=0) rfl rfl rfl (by decide) sj) rfl (vp (dT rfl fx (sR _ _ _ (a 0 _ rfl))) rfl (rL 8 rfl ?_))))
 refine be (MM) oO rfl rfl ?_
 rintro _ rfl
 refine rL 24 rfl (vp (a3 (i:=1) rfl rfl rfl (by decide) sj) rfl (vp (dT rfl fx (sR _ _ _ (a 1 _ rfl))) rfl (rL 8 rfl ?_)))
 refine be (MN) oO rfl rfl ?_
 rintro _ rfl
 refine rL 24 rfl (vp (a3 (i:=2) rfl rfl rfl (by decide) sj) rfl (vp (dT rfl fx (sR _ _ _ (a 2 _ rfl))) rfl (rL 8 rfl ?_)))
 refine be (MO) oO rfl rfl ?_
 rintro _ rfl
 refine rL 24 rfl (vp (a3 (i:=3) rfl rfl rfl (by decide) sj) rfl (vp (dT rfl fx (sR _ _ _ (a 3 _ rfl))) rfl (rL 8 rfl ?_)))
 refine be (MP) oO rfl rfl ?_
 rintro _ rfl
 refine rL 6 rfl (vp (bJ (vs:=[(0,zI 6),(1,.string ⟨#[63]⟩)]) (v:= .agg #[zI 6,.string ⟨#[63]⟩,zI 0,zI 0,zI 0]) rfl (fun W=>by kernel_rfl)) rfl (rL 9 rfl ?_))
 refine cH results59 (aK rfl rfl pk) ⟨rfl,rfl⟩
theorem MR:bd 58 [.string ⟨#[49,32,63,32,50]⟩,zI 4,.string ⟨#[45,45]⟩] ah fun v R'=>R'=ah∧v= .bool false:=by
 refine b5 func58 rfl ntmps58 rfl rfl fun w G ad=> ?_
 refine sV 29 rfl ?_
 refine cH results58 (aT rfl) ⟨rfl,rfl,rfl⟩
theorem yi:bd 79 [.int .u8 50] ah fun v R'=>R'=ah∧v=zI 3:=by
 refine b5 func79 rfl ntmps79 rfl rfl fun w G ad=> ?_
 refine sV 52 rfl ?_
 refine cH results79 (aT rfl) ⟨rfl,rfl,rfl⟩
theorem MS:bd 82 [.string ⟨#[50]⟩] ah fun v R'=>R'=ah∧v= .tuple #[zI 2,.bool true]:=by
 refine b5 func82 rfl ntmps82 rfl rfl fun w G ad=> ?_
 refine sV 64 rfl (vp (hf (v:= .int .u8 50) rfl rfl (fun W=>by kernel_rfl)) rfl ?_)
 refine be (yi) nJ rfl rfl ?_
 rintro _ rfl
 refine rL 8 rfl (vp (gV (v:=zI 0) rfl rfl (fun W=>by kernel_rfl)) rfl (rL 2 rfl (vp (hf (v:= .int .u8 50) rfl rfl (fun W=>by kernel_rfl)) rfl (vp (yJ (v:=zI 50) rfl (fun W=>by kernel_rfl)) rfl (rL 45 rfl ?_)))))
 refine cB results82 (aT rfl) (aT rfl) ⟨rfl,rfl,rfl⟩
theorem MT:bd 59 [.string ⟨#[49,32,63,32,50]⟩,zI 4] ah fun v R'=>R'=ah∧v= .agg #[zI 4,.string ⟨#[50]⟩,zI 2,zI 0,zI 0]:=by
 refine b5 func59 rfl ntmps59 rfl rfl fun w G ad=> ?_
 refine sV 9 rfl (vp (hf (v:= .int .u8 50) rfl rfl (fun W=>by kernel_rfl)) rfl ?_)
 refine be (yi) nJ rfl rfl ?_
 rintro _ rfl
 refine rL 44 rfl (dJ rfl rfl rfl (vp (hf (v:= .int .u8 50) rfl rfl (fun W=>by kernel_rfl)) rfl (dJ rfl rfl rfl ?_)))
 refine be (yi) nJ rfl rfl ?_
 rintro _ rfl
 refine rL 42 rfl (vp (mb (v:= .string ⟨#[50]⟩) rfl rfl rfl (fun W=>by kernel_rfl)) rfl ?_)
 refine be (MS) Dr rfl rfl ?_
 rintro _ rfl
 refine rL 22 rfl (vp (mb (v:= .string ⟨#[50]⟩) rfl rfl rfl (fun W=>by kernel_rfl)) rfl (rL 1 rfl (vp (bJ (vs:=[(0,zI 4),(1,.string ⟨#[50]⟩),(2,zI 2)]) (v:= .agg #[zI 4,.string ⟨#[50]⟩,zI 2,zI 0,zI 0]) rfl (fun W=>by kernel_rfl)) rfl (rL 5 rfl ?_))))
 refine cH results59 (aK rfl rfl pk) ⟨rfl,rfl,rfl⟩
theorem MU{R:Wd}:bd 24 [.string ⟨#[49,32,63,32,50]⟩] R fun v R'=>∃(B:OA) (m:Nat),v= .tuple #[.slice B 5 m,zI 0,.agg #[zI 0,zI 0]]∧cE R' B m qf:=by
 refine b5 func24 rfl ntmps24 rfl rfl fun w G ad=> ?_
 refine sV 55 rfl (vp (hf (v:= .int .u8 49) rfl rfl (fun W=>by kernel_rfl)) rfl (rL 11 rfl (vp (hf (v:= .int .u8 49) rfl rfl (fun W=>by kernel_rfl)) rfl (rL 11 rfl ?_))))
 refine be (ME) oO rfl rfl ?_
 rintro _ rfl
 refine rL 9 rfl ?_
 refine be (MH) yg rfl rfl ?_
 rintro _ rfl
 refine rL 8 rfl (vp (bJ (vs:=[(0,zI 1),(1,zI 1)]) (v:= .agg #[zI 1,zI 1]) rfl (fun W=>by kernel_rfl)) rfl (rL 33 rfl (vp (bJ (vs:=[(0,zI 1),(3,.agg #[zI 1,zI 1])]) (v:= .agg #[zI 1,.string ⟨#[]⟩,zI 0,zI 1,zI 1]) rfl (fun W=>by kernel_rfl)) rfl ?_)))
 refine et io rfl ?_
 intro g1 y _ l
 refine nW 96 5 ?_
 refine gW (news:=[zI 1,.string ⟨#[]⟩,zI 0,zI 1,zI 1]) lQ rfl rfl (cd rfl (fun j u hu=>sR _ _ _ (l j u hu))) (fun h=>by cases h) (fun u hu=>kB.one (R:=R) (a:=⟨1,⟨#[]⟩,0,1,1⟩) rfl u hu) (by decide) rfl rfl ?_
 intro s M I _ _ _ _ _
 refine rL 7 rfl ?_
 refine et io rfl ?_
 intro N t _ i
 refine gO ?_
 refine gW (news:=[zI 4,.string ⟨#[49]⟩,zI 1,zI 1,zI 1]) lQ rfl rfl (cd rfl (fun j u hu=>sR _ _ _ (i j u hu))) (fun h=>by cases h) (fun u hu=>kB.one (R:=R) (a:=⟨4,⟨#[49]⟩,1,1,1⟩) rfl u hu) (by decide) rfl rfl ?_
 intro p J x _ _ _ _ _
 refine rL 41 rfl (vp (hf (v:= .int .u8 32) rfl rfl (fun W=>by kernel_rfl)) rfl (rL 11 rfl (vp (hf (v:= .int .u8 32) rfl rfl (fun W=>by kernel_rfl)) rfl (rL 40 rfl (vp (hf (v:= .int .u8 63) rfl rfl (fun W=>by kernel_rfl)) rfl (rL 11 rfl (vp (hf (v:= .int .u8 63) rfl rfl (fun W=>by kernel_rfl)) rfl (rL 11 rfl ?_))))))))
 refine be (MI) oO rfl rfl ?_
 rintro _ rfl
 refine rL 9 rfl ?_
 refine cN (MQ) yg rfl rfl ?_
 rintro _ z _ rfl
 refine rL 8 rfl (vp (bJ (vs:=[(0,zI 1),(1,zI 3)]) (v:= .agg #[zI 1,zI 3]) rfl (fun W=>by kernel_rfl)) rfl (rL 36 rfl ?_))
 refine et io rfl ?_
 intro O A _ k
 refine gO ?_
 refine gW (news:=[zI 6,.string ⟨#[63]⟩,zI 0,zI 1,zI 3]) lQ rfl rfl (cd rfl (fun j u hu=>sR _ _ _ (k j u hu))) (fun h=>by cases h) (fun u hu=>kB.one (R:=R) (a:=⟨6,⟨#[63]⟩,0,1,3⟩) rfl u hu) (by decide) rfl rfl ?_
 intro q K C _ _ _ _ _
 refine rL 41 rfl (vp (hf (v:= .int .u8 32) rfl rfl (fun W=>by kernel_rfl)) rfl (rL 11 rfl (vp (hf (v:= .int .u8 32) rfl rfl (fun W=>by kernel_rfl)) rfl (rL 40 rfl (vp (hf (v:= .int .u8 50) rfl rfl (fun W=>by kernel_rfl)) rfl (rL 11 rfl (vp (hf (v:= .int .u8 50) rfl rfl (fun W=>by kernel_rfl)) rfl (rL 11 rfl ?_))))))))
 refine be (MR) oO rfl rfl ?_
 rintro _ rfl
 refine rL 9 rfl ?_
 refine be (MT) yg rfl rfl ?_
 rintro _ rfl
 refine rL 8 rfl (vp (bJ (vs:=[(0,zI 1),(1,zI 5)]) (v:= .agg #[zI 1,zI 5]) rfl (fun W=>by kernel_rfl)) rfl (rL 36 rfl ?_))
 refine et io rfl ?_
 intro P D _ n
 refine gO ?_
 refine gW (news:=[zI 4,.string ⟨#[50]⟩,zI 2,zI 1,zI 5]) lQ rfl rfl (cd rfl (fun j u hu=>sR _ _ _ (n j u hu))) (fun h=>by cases h) (fun u hu=>kB.one (R:=R) (a:=⟨4,⟨#[50]⟩,2,1,5⟩) rfl u hu) (by decide) rfl rfl ?_
 intro r L E _ _ _ _ _
 refine rL 43 rfl (vp (bJ (vs:=[(0,zI 1),(1,zI 6)]) (v:= .agg #[zI 1,zI 6]) rfl (fun W=>by kernel_rfl)) rfl (vp (bJ (vs:=[(3,.agg #[zI 1,zI 6])]) (v:= .agg #[zI 0,.string ⟨#[]⟩,zI 0,zI 1,zI 6]) rfl (fun W=>by kernel_rfl)) rfl ?_))
 refine et io rfl ?_
 intro Q F _ o
 refine gO ?_
 refine gW (news:=[zI 0,.string ⟨#[]⟩,zI 0,zI 1,zI 6]) lQ rfl rfl (cd rfl (fun j u hu=>sR _ _ _ (o j u hu))) (fun h=>by cases h) (fun u hu=>kB.one (R:=R) (a:=⟨0,⟨#[]⟩,0,1,6⟩) rfl u hu) (by decide) rfl rfl ?_
 intro b c H _ d e f g
 refine vp (bJ (vs:=[]) (v:= .agg #[zI 0,zI 0]) rfl (fun W=>by kernel_rfl)) rfl (rL 6 rfl ?_)
 refine s9 results24 (aT rfl) (aT rfl) (aK rfl rfl gp) ⟨rfl,b,c,rfl,?_⟩
 exact MC d e f (g)
theorem MV(a:cE ah aA ae gR):bd 26 [.agg #[.slice aA 4 ae,zI 0,zI 0,.bool false,zI 0,zI 0]] ah fun v R'=>R'=ah∧v= .agg #[zI 4,.string ⟨#[49]⟩,zI 1,zI 1,zI 1]:=gq a ⟨0,0,false,0,0⟩
theorem MW(a:cE ah aA ae gR):bd 29 [.agg #[.slice aA 4 ae,zI 0,zI 0,.bool false,zI 0,zI 0],zI 5,.string ⟨#[108,101,116]⟩] ah fun v R'=>R'=ah∧v= .bool false:=hH a ⟨0,0,false,0,0⟩ 5 ⟨#[108,101,116]⟩
theorem MX(a:cE ah aA ae gR):bd 29 [.agg #[.slice aA 4 ae,zI 0,zI 0,.bool false,zI 0,zI 0],zI 5,.string ⟨#[105,102]⟩] ah fun v R'=>R'=ah∧v= .bool false:=hH a ⟨0,0,false,0,0⟩ 5 ⟨#[105,102]⟩
theorem MY(a:cE ah aA ae gR):bd 87 [.agg #[.slice aA 4 ae,zI 0,zI 0,.bool false,zI 0,zI 0]] ah fun v R'=>R'=ah∧v= .tuple #[.agg #[.slice aA 4 ae,zI 1,zI 0,.bool false,zI 0,zI 0],.agg #[zI 3,.string ⟨#[]⟩,zI 1,zS,zI 1,zI 1]]:=qR a ⟨0,0,false,0,0⟩ (by decide)
theorem MZ(a:cE ah aA ae gR):bd 100 [.agg #[.slice aA 4 ae,zI 0,zI 0,.bool false,zI 0,zI 0]] ah fun v R'=>R'=ah∧v= .tuple #[.agg #[.slice aA 4 ae,zI 1,zI 0,.bool false,zI 0,zI 0],.agg #[zI 3,.string ⟨#[]⟩,zI 1,zS,zI 1,zI 1]]:=by
 refine b5 func100 rfl ntmps100 rfl rfl fun w G ad=> ?_
 refine sV 10 rfl ?_
 refine be (MY (bF a sR)) qT rfl rfl ?_
 rintro _ rfl
 refine rL 23 rfl ?_
 refine bZ mixed (fun k=>k==3||k==4) fun aq=> ?_
 refine bL [0,1,1002,1003] rfl (by kernel_rfl) id (bS (by kernel_rfl) (rD 3 rfl ?_))
 refine cB results100 (aK rfl rfl dr) (aK rfl rfl cY) ⟨rfl,rfl,rfl⟩
theorem sk(a:cE ah aA ae gR):bd 26 [.agg #[.slice aA 4 ae,zI 1,zI 0,.bool false,zI 0,zI 0]] ah fun v R'=>R'=ah∧v= .agg #[zI 6,.string ⟨#[63]⟩,zI 0,zI 1,zI 3]:=gq a ⟨1,0,false,0,0⟩
theorem M0{R:Wd}:bd 101 [.agg #[zI 6,.string ⟨#[63]⟩,zI 0,zI 1,zI 3]] R fun v R'=>R'=R∧v= .bool false:=by have h:=vw (R:=R) ⟨6,⟨#[63]⟩,0,1,3⟩;rw[show qs ⟨6,⟨#[63]⟩,0,1,3⟩=false from by kernel_rfl] at h;exact h
theorem M1(a:cE ah aA ae gR):bd 84 [.agg #[.slice aA 4 ae,zI 0,zI 0,.bool false,zI 0,zI 0]] ah fun v R'=>v= .tuple #[.agg #[.slice aA 4 ae,zI 1,zI 0,.bool false,zI 0,zI 0],.agg #[zI 3,.string ⟨#[]⟩,zI 1,zS,zI 1,zI 1]]:=by
 refine b5 func84 rfl ntmps84 rfl rfl fun w G ad=> ?_
 refine sV 10 rfl ?_
 refine be (MZ (bF a sR)) tb rfl rfl ?_
 rintro _ rfl
 refine rL 12 rfl ?_
 refine et cZ rfl ?_
 intro g1 c b _
 refine rL 14 rfl (dJ rfl rfl rfl ?_)
 refine be (sk (bF a b)) eZ rfl rfl ?_
 rintro _ rfl
 refine dJ rfl rfl rfl ?_
 refine be (M0) vx rfl rfl ?_
 rintro _ rfl
 refine rL 19 rfl ?_
 refine bZ mixed (fun k=>k==3||k==4) fun aq=> ?_
 refine bL [0,1,1002,1003] rfl (by kernel_rfl) id (bS (by kernel_rfl) (rD 3 rfl ?_))
 refine cB results84 (aK rfl rfl dr) (aK rfl rfl cY) ⟨rfl,rfl⟩
theorem M2(a:cE ah aA ae gR):bd 62 [.agg #[.slice aA 4 ae,zI 0,zI 0,.bool false,zI 0,zI 0],zI 5] ah fun v R'=>v= .tuple #[.agg #[.slice aA 4 ae,zI 1,zI 0,.bool false,zI 0,zI 0],.agg #[zI 3,.string ⟨#[]⟩,zI 1,zS,zI 1,zI 1]]:=by
 refine b5 func62 rfl ntmps62 rfl rfl fun w G ad=> ?_
 refine sV 18 rfl ?_
 refine cN (M1 (bF a sR)) vC rfl rfl ?_
 rintro _ b _ rfl
 refine rL 8 rfl ?_
 refine cB results62 (aK rfl rfl dr) (aK rfl rfl cY) ⟨rfl,rfl⟩
theorem uH{R:Wd}:bd 85 [.string ⟨#[63]⟩] R fun v R'=>R'=R∧v=zI 1:=by have h:=zf (R:=R) ⟨#[63]⟩;rw[show sy ⟨#[63]⟩=1 from by kernel_rfl] at h;exact h
theorem M3(a:cE ah aA ae gR):bd 62 [.agg #[.slice aA 4 ae,zI 0,zI 0,.bool false,zI 0,zI 0],zI 4] ah fun v R'=>v= .tuple #[.agg #[.slice aA 4 ae,zI 1,zI 0,.bool false,zI 0,zI 0],.agg #[zI 3,.string ⟨#[]⟩,zI 1,zS,zI 1,zI 1]]:=by
 refine b5 func62 rfl ntmps62 rfl rfl fun w G ad=> ?_
 refine sV 22 rfl ?_
 refine cN (M2 (bF a sR)) jC rfl rfl ?_
 rintro _ c b rfl
 refine rL 15 rfl ?_
 refine be (sk (bF a b)) eZ rfl rfl ?_
 rintro _ rfl
 refine rL 17 rfl (dJ rfl rfl rfl ?_)
 refine be (uH) qW rfl rfl ?_
 rintro _ rfl
 refine rL 7 rfl ?_
 refine bZ mixed (fun k=>k==3||k==4) fun aq=> ?_
 refine bL [0,1,1002,1003] rfl (by kernel_rfl) id (bS (by kernel_rfl) (rD 6 rfl ?_))
 refine cB results62 (aK rfl rfl dr) (aK rfl rfl cY) ⟨rfl,rfl⟩
theorem M4(a:cE ah aA ae gR):bd 62 [.agg #[.slice aA 4 ae,zI 0,zI 0,.bool false,zI 0,zI 0],zI 3] ah fun v R'=>v= .tuple #[.agg #[.slice aA 4 ae,zI 1,zI 0,.bool false,zI 0,zI 0],.agg #[zI 3,.string ⟨#[]⟩,zI 1,zS,zI 1,zI 1]]:=by
 refine b5 func62 rfl ntmps62 rfl rfl fun w G ad=> ?_
 refine sV 22 rfl ?_
 refine cN (M3 (bF a sR)) jC rfl rfl ?_
 rintro _ c b rfl
 refine rL 15 rfl ?_
 refine be (sk (bF a b)) eZ rfl rfl ?_
 rintro _ rfl
 refine rL 17 rfl (dJ rfl rfl rfl ?_)
 refine be (uH) qW rfl rfl ?_
 rintro _ rfl
 refine rL 7 rfl ?_
 refine bZ mixed (fun k=>k==3||k==4) fun aq=> ?_
 refine bL [0,1,1002,1003] rfl (by kernel_rfl) id (bS (by kernel_rfl) (rD 6 rfl ?_))
 refine cB results62 (aK rfl rfl dr) (aK rfl rfl cY) ⟨rfl,rfl⟩
theorem M5(a:cE ah aA ae gR):bd 62 [.agg #[.slice aA 4 ae,zI 0,zI 0,.bool false,zI 0,zI 0],zI 2] ah fun v R'=>v= .tuple #[.agg #[.slice aA 4 ae,zI 1,zI 0,.bool false,zI 0,zI 0],.agg #[zI 3,.string ⟨#[]⟩,zI 1,zS,zI 1,zI 1]]:=by
 refine b5 func62 rfl ntmps62 rfl rfl fun w G ad=> ?_
 refine sV 22 rfl ?_
 refine cN (M4 (bF a sR)) jC rfl rfl ?_
 rintro _ c b rfl
 refine rL 15 rfl ?_
 refine be (sk (bF a b)) eZ rfl rfl ?_
 rintro _ rfl
 refine rL 17 rfl (dJ rfl rfl rfl ?_)
 refine be (uH) qW rfl rfl ?_
 rintro _ rfl
 refine rL 7 rfl ?_
 refine bZ mixed (fun k=>k==3||k==4) fun aq=> ?_
 refine bL [0,1,1002,1003] rfl (by kernel_rfl) id (bS (by kernel_rfl) (rD 6 rfl ?_))
 refine cB results62 (aK rfl rfl dr) (aK rfl rfl cY) ⟨rfl,rfl⟩
theorem M6(a:cE ah aA ae gR):bd 87 [.agg #[.slice aA 4 ae,zI 2,zI 0,.bool false,zI 0,zI 0]] ah fun v R'=>R'=ah∧v= .tuple #[.agg #[.slice aA 4 ae,zI 3,zI 0,.bool false,zI 0,zI 0],.agg #[zI 3,.string ⟨#[]⟩,zI 2,zS,zI 1,zI 5]]:=qR a ⟨2,0,false,0,0⟩ (by decide)
theorem M7(a:cE ah aA ae gR):bd 100 [.agg #[.slice aA 4 ae,zI 2,zI 0,.bool false,zI 0,zI 0]] ah fun v R'=>R'=ah∧v= .tuple #[.agg #[.slice aA 4 ae,zI 3,zI 0,.bool false,zI 0,zI 0],.agg #[zI 3,.string ⟨#[]⟩,zI 2,zS,zI 1,zI 5]]:=by
 refine b5 func100 rfl ntmps100 rfl rfl fun w G ad=> ?_
 refine sV 10 rfl ?_
 refine be (M6 (bF a sR)) qT rfl rfl ?_
 rintro _ rfl
 refine rL 23 rfl ?_
 refine bZ mixed (fun k=>k==3||k==4) fun aq=> ?_
 refine bL [0,1,1002,1003] rfl (by kernel_rfl) id (bS (by kernel_rfl) (rD 3 rfl ?_))
 refine cB results100 (aK rfl rfl dr) (aK rfl rfl cY) ⟨rfl,rfl,rfl⟩
theorem qg(a:cE ah aA ae gR):bd 26 [.agg #[.slice aA 4 ae,zI 3,zI 0,.bool false,zI 0,zI 0]] ah fun v R'=>R'=ah∧v= .agg #[zI 0,.string ⟨#[]⟩,zI 0,zI 1,zI 6]:=gq a ⟨3,0,false,0,0⟩
theorem M8{R:Wd}:bd 101 [.agg #[zI 0,.string ⟨#[]⟩,zI 0,zI 1,zI 6]] R fun v R'=>R'=R∧v= .bool false:=by have h:=vw (R:=R) ⟨0,⟨#[]⟩,0,1,6⟩;rw[show qs ⟨0,⟨#[]⟩,0,1,6⟩=false from by kernel_rfl] at h;exact h
theorem M9(a:cE ah aA ae gR):bd 84 [.agg #[.slice aA 4 ae,zI 2,zI 0,.bool false,zI 0,zI 0]] ah fun v R'=>v= .tuple #[.agg #[.slice aA 4 ae,zI 3,zI 0,.bool false,zI 0,zI 0],.agg #[zI 3,.string ⟨#[]⟩,zI 2,zS,zI 1,zI 5]]:=by
 refine b5 func84 rfl ntmps84 rfl rfl fun w G ad=> ?_
 refine sV 10 rfl ?_
 refine be (M7 (bF a sR)) tb rfl rfl ?_
 rintro _ rfl
 refine rL 12 rfl ?_
 refine et cZ rfl ?_
 intro g1 c b _
 refine rL 14 rfl (dJ rfl rfl rfl ?_)
 refine be (qg (bF a b)) eZ rfl rfl ?_
 rintro _ rfl
 refine dJ rfl rfl rfl ?_
 refine be (M8) vx rfl rfl ?_
 rintro _ rfl
 refine rL 19 rfl ?_
 refine bZ mixed (fun k=>k==3||k==4) fun aq=> ?_
 refine bL [0,1,1002,1003] rfl (by kernel_rfl) id (bS (by kernel_rfl) (rD 3 rfl ?_))
 refine cB results84 (aK rfl rfl dr) (aK rfl rfl cY) ⟨rfl,rfl⟩
theorem Na(a:cE ah aA ae gR):bd 62 [.agg #[.slice aA 4 ae,zI 2,zI 0,.bool false,zI 0,zI 0],zI 5] ah fun v R'=>v= .tuple #[.agg #[.slice aA 4 ae,zI 3,zI 0,.bool false,zI 0,zI 0],.agg #[zI 3,.string ⟨#[]⟩,zI 2,zS,zI 1,zI 5]]:=by
 refine b5 func62 rfl ntmps62 rfl rfl fun w G ad=> ?_
 refine sV 18 rfl ?_
 refine cN (M9 (bF a sR)) vC rfl rfl ?_
 rintro _ b _ rfl
 refine rL 8 rfl ?_
 refine cB results62 (aK rfl rfl dr) (aK rfl rfl cY) ⟨rfl,rfl⟩
theorem Nb(a:cE ah aA ae gR):bd 62 [.agg #[.slice aA 4 ae,zI 2,zI 0,.bool false,zI 0,zI 0],zI 4] ah fun v R'=>v= .tuple #[.agg #[.slice aA 4 ae,zI 3,zI 0,.bool false,zI 0,zI 0],.agg #[zI 3,.string ⟨#[]⟩,zI 2,zS,zI 1,zI 5]]:=by
 refine b5 func62 rfl ntmps62 rfl rfl fun w G ad=> ?_
 refine sV 22 rfl ?_
 refine cN (Na (bF a sR)) jC rfl rfl ?_
 rintro _ c b rfl
 refine rL 15 rfl ?_
 refine be (qg (bF a b)) eZ rfl rfl ?_
 rintro _ rfl
 refine rL 25 rfl ?_
 refine bZ mixed (fun k=>k==3||k==4) fun aq=> ?_
 refine bL [0,1,1002,1003] rfl (by kernel_rfl) id (bS (by kernel_rfl) (rD 6 rfl ?_))
 refine cB results62 (aK rfl rfl dr) (aK rfl rfl cY) ⟨rfl,rfl⟩
theorem Nc(a:cE ah aA ae gR):bd 62 [.agg #[.slice aA 4 ae,zI 2,zI 0,.bool false,zI 0,zI 0],zI 3] ah fun v R'=>v= .tuple #[.agg #[.slice aA 4 ae,zI 3,zI 0,.bool false,zI 0,zI 0],.agg #[zI 3,.string ⟨#[]⟩,zI 2,zS,zI 1,zI 5]]:=by
 refine b5 func62 rfl ntmps62 rfl rfl fun w G ad=> ?_
 refine sV 22 rfl ?_
 refine cN (Nb (bF a sR)) jC rfl rfl ?_
 rintro _ c b rfl
 refine rL 15 rfl ?_
 refine be (qg (bF a b)) eZ rfl rfl ?_
 rintro _ rfl
 refine rL 25 rfl ?_
 refine bZ mixed (fun k=>k==3||k==4) fun aq=> ?_
 refine bL [0,1,1002,1003] rfl (by kernel_rfl) id (bS (by kernel_rfl) (rD 6 rfl ?_))
 refine cB results62 (aK rfl rfl dr) (aK rfl rfl cY) ⟨rfl,rfl⟩
theorem Nd(a:cE ah aA ae gR):bd 62 [.agg #[.slice aA 4 ae,zI 2,zI 0,.bool false,zI 0,zI 0],zI 2] ah fun v R'=>v= .tuple #[.agg #[.slice aA 4 ae,zI 3,zI 0,.bool false,zI 0,zI 0],.agg #[zI 3,.string ⟨#[]⟩,zI 2,zS,zI 1,zI 5]]:=by
 refine b5 func62 rfl ntmps62 rfl rfl fun w G ad=> ?_
 refine sV 22 rfl ?_
 refine cN (Nc (bF a sR)) jC rfl rfl ?_
 rintro _ c b rfl
 refine rL 15 rfl ?_
 refine be (qg (bF a b)) eZ rfl rfl ?_
 rintro _ rfl
 refine rL 25 rfl ?_
 refine bZ mixed (fun k=>k==3||k==4) fun aq=> ?_
 refine bL [0,1,1002,1003] rfl (by kernel_rfl) id (bS (by kernel_rfl) (rD 6 rfl ?_))
 refine cB results62 (aK rfl rfl dr) (aK rfl rfl cY) ⟨rfl,rfl⟩
theorem Nf(a:cE ah aA ae gR):bd 62 [.agg #[.slice aA 4 ae,zI 2,zI 0,.bool false,zI 0,zI 0],zI 1] ah fun v R'=>v= .tuple #[.agg #[.slice aA 4 ae,zI 3,zI 0,.bool false,zI 0,zI 0],.agg #[zI 3,.string ⟨#[]⟩,zI 2,zS,zI 1,zI 5]]:=by
 refine b5 func62 rfl ntmps62 rfl rfl fun w G ad=> ?_
 refine sV 22 rfl ?_
 refine cN (Nd (bF a sR)) jC rfl rfl ?_
 rintro _ c b rfl
 refine rL 15 rfl ?_
 refine be (qg (bF a b)) eZ rfl rfl ?_
 rintro _ rfl
 refine rL 25 rfl ?_
 refine bZ mixed (fun k=>k==3||k==4) fun aq=> ?_
 refine bL [0,1,1002,1003] rfl (by kernel_rfl) id (bS (by kernel_rfl) (rD 6 rfl ?_))
 refine cB results62 (aK rfl rfl dr) (aK rfl rfl cY) ⟨rfl,rfl⟩
theorem Ng(a:cE ah aA ae gR):bd 62 [.agg #[.slice aA 4 ae,zI 0,zI 0,.bool false,zI 0,zI 0],zI 1] ah fun v R'=>∃g:Nat,v= .tuple #[.agg #[.slice aA 4 ae,zI 3,zI 0,.bool false,zI 0,zI 0],.agg #[zI 5,.string ⟨#[63]⟩,zI 0,.slice (some ⟨g,0,none⟩) 2 2,zI 1,zI 3]]∧∀j u,([zI 3,.string ⟨#[]⟩,zI 1,zS,zI 1,zI 1,zI 3,.string ⟨#[]⟩,zI 2,zS,zI 1,zI 5]:LV)[j]?=some u→R'.cell? ⟨g,j,none⟩=some u:=by
 refine b5 func62 rfl ntmps62 rfl rfl fun w G ad=> ?_
 refine sV 22 rfl ?_
 refine cN (M5 (bF a sR)) jC rfl rfl ?_
 rintro _ e c rfl
 refine rL 15 rfl ?_
 refine be (sk (bF a c)) eZ rfl rfl ?_
 rintro _ rfl
 refine rL 17 rfl (dJ rfl rfl rfl ?_)
 refine be (uH) qW rfl rfl ?_
 rintro _ rfl
 refine rL 40 rfl ?_
 refine cN (Nf (bF a c)) jC rfl rfl ?_
 rintro _ f _ rfl
 refine rL 21 rfl ?_
 refine et cZ rfl ?_
 intro b h _ d
 refine rL 2 rfl (vp (bJ (vs:=[(0,zI 5),(1,.string ⟨#[63]⟩),(3,.slice (some ⟨b,0,none⟩) 2 2),(4,.agg #[zI 1,zI 3])]) (v:= .agg #[zI 5,.string ⟨#[63]⟩,zI 0,.slice (some ⟨b,0,none⟩) 2 2,zI 1,zI 3]) rfl (fun W=>by kernel_rfl)) rfl (rL 11 rfl ?_))
 refine bZ mixed (fun k=>k==3||k==4) fun aq=> ?_
 refine bL [0,1,1002,1003] rfl (by kernel_rfl) id (bS (by kernel_rfl) (rD 5 rfl ?_))
 refine cB results62 (aK rfl rfl dr) (aK rfl rfl cY) ⟨rfl,b,rfl,fun j u hu=>d j u hu⟩
theorem Nh(a:cE ah aA ae gR):bd 25 [.agg #[.slice aA 4 ae,zI 0,zI 0,.bool false,zI 0,zI 0]] ah fun v R'=>∃g:Nat,v= .tuple #[.agg #[.slice aA 4 ae,zI 3,zI 0,.bool false,zI 0,zI 0],.agg #[zI 5,.string ⟨#[63]⟩,zI 0,.slice (some ⟨g,0,none⟩) 2 2,zI 1,zI 3]]∧∀j u,([zI 3,.string ⟨#[]⟩,zI 1,zS,zI 1,zI 1,zI 3,.string ⟨#[]⟩,zI 2,zS,zI 1,zI 5]:LV)[j]?=some u→R'.cell? ⟨g,j,none⟩=some u:=by
 refine b5 func25 rfl ntmps25 rfl rfl fun w G ad=> ?_
 refine sV 10 rfl ?_
 refine be (MV (bF a sR)) eZ rfl rfl ?_
 rintro _ rfl
 refine vp (mj (ds:=#[zI 1,zI 1]) rfl mw rfl) rfl (rL 28 rfl ?_)
 refine be (MW (bF a sR)) hG rfl rfl ?_
 rintro _ rfl
 refine rL 7 rfl ?_
 refine be (MX (bF a sR)) hG rfl rfl ?_
 rintro _ rfl
 refine rL 7 rfl ?_
 refine cN (Ng (bF a sR)) jC rfl rfl ?_
 rintro _ d _ ⟨b,rfl,c⟩
 refine rL 8 rfl ?_
 refine cB results25 (aK rfl rfl dr) (aK rfl rfl cY) ⟨rfl,b,rfl,fun j u hu=>c j u hu⟩
theorem Ni{R:Wd}:bd 9 [.string ⟨#[49,32,63,32,50]⟩] R fun v R'=>∃g:Nat,v= .tuple #[.agg #[zI 5,.string ⟨#[63]⟩,zI 0,.slice (some ⟨g,0,none⟩) 2 2,zI 1,zI 3],zI 0,.agg #[zI 0,zI 0]]∧∀j u,([zI 3,.string ⟨#[]⟩,zI 1,zS,zI 1,zI 1,zI 3,.string ⟨#[]⟩,zI 2,zS,zI 1,zI 5]:LV)[j]?=some u→R'.cell? ⟨g,j,none⟩=some u:=by
 refine b5 func9 rfl ntmps9 rfl rfl fun w G ad=> ?_
 refine sV 10 rfl ?_
 refine cN (MU) vK rfl rfl ?_
 rintro _ T _ ⟨P,an,rfl,b⟩
 refine rL 48 rfl ?_
 obtain⟨ak,az,s,E⟩:=cE.cell (bF b sR) 0 (by decide)
 refine vp (a3 (i:=0) s rfl rfl (by decide) io) rfl (vp (cl rfl E rfl) rfl (rL 33 rfl ?_))
 obtain⟨af,av,o,A⟩:=cE.cell (bF b sR) 1 (by decide)
 refine vp (a3 (i:=1) o rfl rfl (by decide) io) rfl (vp (cl rfl A rfl) rfl (rL 15 rfl ?_))
 refine et io rfl ?_
 intro ap U c F
 refine nW 96 5 ?_
 refine gW (news:=[zI 4,.string ⟨#[49]⟩,zI 1,zI 1,zI 1]) lQ rfl rfl (cd rfl (fun j u hu=>sR _ _ _ (F j u hu))) (fun h=>by cases h) (fun u hu=>kB.one (R:=R) (a:=⟨4,⟨#[49]⟩,1,1,1⟩) rfl u hu) (by decide) rfl rfl ?_
 intro O al V d _ _ _ _
 refine rL 22 rfl ?_
 obtain⟨ag,aw,p,B⟩:=cE.cell (bF b (ai c d)) 2 (by decide)
 refine vp (a3 (i:=2) p rfl rfl (by decide) io) rfl (vp (cl rfl B rfl) rfl (rL 15 rfl ?_))
 refine et io rfl ?_
 intro aq X l H
 refine gO ?_
 refine gW (news:=[zI 6,.string ⟨#[63]⟩,zI 0,zI 1,zI 3]) lQ rfl rfl (cd rfl (fun j u hu=>sR _ _ _ (H j u hu))) (fun h=>by cases h) (fun u hu=>kB.one (R:=R) (a:=⟨6,⟨#[63]⟩,0,1,3⟩) rfl u hu) (by decide) rfl rfl ?_
 intro Q am Y m _ _ _ _
 refine rL 22 rfl ?_
 obtain⟨ah,ax,q,C⟩:=cE.cell (bF b (ai (ai (ai c d) l) m)) 3 (by decide)
 refine vp (a3 (i:=3) q rfl rfl (by decide) io) rfl (vp (cl rfl C rfl) rfl (rL 15 rfl ?_))
 refine et io rfl ?_
 intro ar Z L I
 refine gO ?_
 refine gW (news:=[zI 4,.string ⟨#[50]⟩,zI 2,zI 1,zI 5]) lQ rfl rfl (cd rfl (fun j u hu=>sR _ _ _ (I j u hu))) (fun h=>by cases h) (fun u hu=>kB.one (R:=R) (a:=⟨4,⟨#[50]⟩,2,1,5⟩) rfl u hu) (by decide) rfl rfl ?_
 intro S ao aa M _ _ _ _
 refine rL 22 rfl ?_
 obtain⟨aj,ay,r,D⟩:=cE.cell (bF b (ai (ai (ai (ai (ai c d) l) m) L) M)) 4 (by decide)
 refine vp (a3 (i:=4) r rfl rfl (by decide) io) rfl (vp (cl rfl D rfl) rfl (rL 15 rfl ?_))
 refine et io rfl ?_
 intro au ab _ J
 refine gO ?_
 refine gW (news:=[zI 0,.string ⟨#[]⟩,zI 0,zI 1,zI 6]) lQ rfl rfl (cd rfl (fun j u hu=>sR _ _ _ (J j u hu))) (fun h=>by cases h) (fun u hu=>kB.one (R:=R) (a:=⟨0,⟨#[]⟩,0,1,6⟩) rfl u hu) (by decide) rfl rfl ?_
 intro e k ac _ t x y z
 refine rL 24 rfl (vp (bJ (vs:=[(0,.slice e ((((0+1)+1)+1)+1) k)]) (v:= .agg #[.slice e ((((0+1)+1)+1)+1) k,zI 0,zI 0,.bool false,zI 0,zI 0]) rfl (fun W=>by kernel_rfl)) rfl ?_)
 have f:=MD t x y (z)
 refine cN (Nh (bF f sR)) jB rfl rfl ?_
 rintro _ ae N ⟨n,rfl,K⟩
 refine rL 17 rfl (dJ rfl rfl rfl ?_)
 refine be (qg (bF f N)) eZ rfl rfl ?_
 rintro _ rfl
 refine dJ rfl rfl rfl (vp (k6 rfl m3 rfl) rfl (rL 20 rfl (vp (bJ (vs:=[]) (v:= .agg #[zI 0,zI 0]) rfl (fun W=>by kernel_rfl)) rfl (rL 6 rfl ?_))))
 refine s9 results9 (aK rfl rfl cY) (aT rfl) (aK rfl rfl gp) ⟨rfl,n,rfl,fun j u hu=>K j u hu⟩
end Go.Proofs.YthnogncknmhgoaaGreat.Vm
namespace Go.Proofs.YthnogncknmhgoaaGreat.Vm
open ChangeShapes WideShapes ChangeAt RowKit bq Data Mo
variable{zl:Addr}{ae:Nat}{ah:Wd}
theorem Ds:aF 9:=by unfold aF;kernel_rfl
theorem Nj:aF 10:=by unfold aF;kernel_rfl
theorem Du:aF 11:=by unfold aF;kernel_rfl
theorem Nk(h:∀j u,([zI 3,.string ⟨#[]⟩,zI 1,zS,zI 1,zI 1,zI 3,.string ⟨#[]⟩,zI 2,zS,zI 1,zI 5]:LV)[j]?=some u→ah.cell? ⟨ae,j,none⟩=some u):
 Ex.Cs ah e0 [zI 5,.string ⟨#[63]⟩,zI 0,.slice (some ⟨ae,0,none⟩) 2 2,zI 1,zI 3]:=
 ⟨_,_,rfl,po (by decide),td (c1:=[zI 3,.string ⟨#[]⟩,zI 1,zS,zI 1,zI 1]) (c2:=[zI 3,.string ⟨#[]⟩,zI 2,zS,zI 1,zI 5]) (de eg (ew _)) (de eg (ew _)) h⟩
theorem Dv:cF (some zl) 1 1:=⟨by decide,by decide,by decide,fun h=>by cases h⟩
theorem Nl:cJ 4 [] [] ah ⟨bH,bH⟩ (ic ⟨bH,bH⟩ fun v _=>v= .bool true):=by
 refine eh func4 rfl ntmps4 rfl fun w G ad=> ?_
 refine cG 7 rfl ?_
 refine kQ (Ni) Ds rfl rfl ?_
 rintro _ K _ ⟨g1,rfl,C⟩
 refine an 13 rfl (xp (bJ (vs:=[]) (v:= .agg #[zS,zS]) rfl (fun W=>by kernel_rfl)) rfl (an 1 rfl ?_))
 refine dP (LH (uB uG) (m:=⟨[],[]⟩) (ez eg (ew _) eg (ew _)) (by simp) (by decide) (Nk C) (by decide) (by decide) 100 [] Gh.ret fun _=>aR.ret ()) Nj rfl rfl ?_ ?_
 rintro ab c L O _ -⟨rfl,rfl,f,v,e,B,a⟩
 cases e
 obtain⟨acc,met,rfl,A,x⟩:=Mg B
 unfold uu at a
 simp only at a
 rw[if_pos A,x] at a
 obtain⟨aa,rfl,J,T,rfl,_,h⟩:=a
 refine an 18 rfl (eX rfl rfl rfl ?_)
 obtain⟨R,U,_,t,⟨af,rfl,H⟩,y⟩:=a5.get jv h 0 (by decide)
 refine xp (a3 (i:=0) t rfl rfl (by decide) kn) rfl (eX rfl rfl rfl (xp (dT rfl kT (sR _ _ _ (y 0 _ rfl))) rfl (eX rfl rfl rfl ?_)))
 refine fc gE rfl ?_
 intro g1 q b D
 refine eX rfl rfl rfl ?_
 have k:=a6.sub cP H b
 have o:a6 dU 1 q (.slice (some ⟨g1,0,none⟩) 1 1) [0]:=⟨_,_,rfl,Dv,a5.new cP (c4 (show dU _ _ _ from rfl)) D⟩
 refine dP (C2 (X:=⟨bH,bH⟩) (l:=[0]) k o) Du rfl rfl ?_ ?_
 rintro ac Y M P j -⟨rfl,rfl,_,e,rfl⟩
 cases e
 refine an 3 rfl (eX rfl rfl rfl ?_)
 obtain⟨S,V,_,u,⟨ag,rfl,I⟩,z⟩:=a5.get jv h 1 (by decide)
 refine xp (a3 (i:=1) u rfl rfl (by decide) kn) rfl (eX rfl rfl rfl (xp (dT rfl kT ((ai b j) _ _ _ (z 0 _ rfl))) rfl (eX rfl rfl rfl ?_)))
 refine fc gE rfl ?_
 intro s r F E
 refine eX rfl rfl rfl ?_
 have n:=a6.sub cP I (ai (ai b j) F)
 have p:a6 dU 1 r (.slice (some ⟨s,0,none⟩) 1 1) [1]:=⟨_,_,rfl,Dv,a5.new cP (c4 (show dU _ _ _ from rfl)) E⟩
 refine dP (C2 (X:=⟨bH,bH⟩) (l:=[1]) n p) Du rfl rfl ?_ ?_
 rintro ae Z N Q _ -⟨rfl,rfl,_,e,rfl⟩
 cases e
 refine an 5 rfl ?_
 exact dm results4 (aT rfl) ⟨rfl,rfl,_,rfl,rfl⟩
 rintro ch c d g _ _ ⟨_,_,_,e,_⟩
 cases e
 rintro ch c d g _ _ ⟨_,_,_,e,_⟩
 cases e
 rintro ch c d g _ _ ⟨_,_,_,_,e,_⟩
 cases e
end Go.Proofs.YthnogncknmhgoaaGreat.Vm
namespace Go.Proofs.YthnogncknmhgoaaGreat.Vm
open ChangeShapes WideShapes ChangeAt RowKit bq Data Lx
variable{cj:Act}{c8:Array Operand}{fi:Array TypeId}{hB:er}{dx:Func}{bk:FuncId}{aj bj:LV}{mO:LV→Wd→Prop}{aI:List Nat}{Nt:Lo}{ae ao aX:Nat}{a0:Nat→Nat}{bI:St}{lU:Vl→LV→List bU→Wd→Prop}{ah bR:Wd}
section
variable{C:er}{ops:Array Oper}{Q:Exit→Act→Wd→Prop}{sl:List (Nat×AV)}{bx:List Bx}{rw:List bU}{R:Wd}{d:Nat}{ty:TypeId}{pos:String}{af:Array Edge}{K:HK}{S0:St}{R0:Wd}{aq:Nat→Nat}{ay:Nat}{aN:Array Bool}
theorem lx{i:Nat}{ts rs:List bU}(f:ops[i]?=some ⟨some d,.call {callee:= .value (.func bk),args:=c8,argTypes:=fi},ty,pos,af,none⟩)
 (L:iL bk aj ao bj ts R lU) (z:aF bk) (O:fb ⟨sl,bx,rw⟩ c8 (.ptr ae 0::aj.map .val)) (c:bx[ae]?=some (ao,bj)) (I:rw=ts++rs) (F:Nat.blt d C.N=true) (A:hold K (aN.setIfInBounds i true) ae=false)
 (k:∀v b g R',Sub R R'→lU v b g R'→VA C K S0 R0 aq ops Q ay (aN.setIfInBounds i true) ⟨(d,.val v)::sl,bx.set ae (ao,b),g++rs⟩ R')
 (J:fq C K S0 R0 aq ops Q ay aN ⟨sl,bx,rw⟩ R aI):fq C K S0 R0 aq ops Q ay aN ⟨sl,bx,rw⟩ R (i::aI):=by
 intro j l ad a W h n p h3 q u r
 rcases dX.1 l with rfl|l
 ·unfold wpOp
  simp only[f,Region.wanted]
  refine .inl ?_
  unfold Oper.wp
  have s:=(List.getElem?_eq_some_iff.1 c).1
  have t:∀i,i< [(ao,bj)].length→(fun _=>ae:Nat→Nat) i<bx.length∧bx[(fun _=>ae:Nat→Nat) i]?=[(ao,bj)][i]?:=by
   intro i f
   have:i=0:=by simpa using f
   subst this
   exact⟨s,c⟩
  have D:(AV.ptr ae 0::aj.map AV.val).map (AV.den ad)=((AV.ptr 0 0::aj.map AV.val)).map (AV.den fun _=>ad ae):=by
   simp only[List.map_cons,List.map_map]
   rfl
  rw[k7,O.eval h.slot,j0 z,D]
  have B:=h.own
  subst I
  refine(L W (fun _=>ad ae) (B.sub (fun _=>ae) [(ao,bj)] t (fun i j f l _=>by simp at f l;omega) (List.sublist_append_left ts rs))).mono ?_
  rintro E W' ⟨v,P,g,R',rfl,m,G,S,M,b,rfl,H⟩
  have w:=h.called (rs:=rs) (ts:=ts) rfl (fun _=>ae) t m G rfl M (bx.set ae (ao,b)) (by simp) (fun i f=>by
   have:i=0:=by simpa using f
   subst this
   simp[List.getElem?_set_self s]) (fun k c=>List.getElem?_set_ne (c 0 (by simp)))
  have y:Rel C ⟨(d,.val v)::sl,bx.set ae (ao,b),g++rs⟩ R' ad (a.put (some d) v) W':=w.put (x:= .val v) (dn F) (fun k o e=>by cases e)
  exact sN (S':=⟨(d,.val v)::sl,bx.set ae (ao,b),g++rs⟩) (ad:=ad) (fun k c=>by
   show (bx.set ae (ao,b))[k]?=S0.boxes[k]?
   rw[List.getElem?_set_ne (fun e=>by subst e;rw[A] at c;cases c)]
   exact p k (qB c)) n (h3.trans m.sub) (by simpa using q) u r (k v b g R' m.sub H) y
 ·exact J j l ad a W h n p h3 q u r
end
structure Wf where
 hM:Option Addr
 aB:List Pl
 hX:Nat
 Am:Option Addr
 ms:List Pl
 cq:Nat
 Al:Option Addr
 ls:List Lo
 dA:Nat
structure Wt where
 As:Option Addr
 l:List Bi
 ek:Nat
 made:Int
 Af:Option Addr
 fs:List Fr
 yj:Nat
 xf:List Value
 e:Int
 al:Int
 ac:Int
def cu (f:Wf) (t:Wt):List Value:=[.slice t.As t.l.length t.ek,.int .i64 t.made,.slice f.hM f.aB.length f.hX,.slice f.Am f.ms.length f.cq,.slice f.Al f.ls.length f.dA,.slice t.Af t.fs.length t.yj,.int .i64 t.e,.int .i64 t.al,.int .i64 t.ac]
def Wt.tok (t:Wt):bU:=⟨.slice t.Af t.fs.length t.yj,t.fs.length,t.xf,135,6⟩
def Wf.Ok (R:World) (f:Wf):Prop:=(cF f.hM f.aB.length f.hX∧a5 Pl.Cs 6 R f.hM f.aB)∧(cF f.Am f.ms.length f.cq∧a5 Pl.Cs 6 R f.Am f.ms)∧cF f.Al f.ls.length f.dA∧a5 Lo.Cs 5 R f.Al f.ls
def Wt.Ok (R:World) (t:Wt):Prop:=(cF t.As t.l.length t.ek∧a5 Bi.Cs 5 R t.As t.l)∧Good t.l∧0≤t.made∧dL Fr.Cs 6 R t.Af t.fs t.yj t.xf
def Wt.qh (t:Wt) (n:Nat):Prop:=t.l.length+1000*n≤485000000∧t.made+500000000*(n:Int)≤800000000000000∧t.fs.length+n≤1000000
def Wt.Up (t a:Wt) (n:Nat):Prop:=a.l.length+1000≤t.l.length+1000*n∧t.made≤a.made∧a.made≤t.made+500000000*(n:Int)∧a.fs.length≤t.fs.length+n
def yk (f:Wf) (t:Wt) (n:Nat) (v:Value) (c:List Value) (d:List bU) (R':World):Prop:=∃a:Wt,c=cu f a∧d=[a.tok]∧a.Ok R'∧t.Up a n∧∃(y:Ty) (b:List Value),v= .agg b.toArray∧Ty.Cs R' y b
def oP (n:Nat):Prop:=∀{R:World} {f:Wf} {t:Wt} {a:List Value} {x:Ex},f.Ok R→t.Ok R→t.qh x.size→f.ls.length+x.size≤1000000→Ex.Cs R x a→x.size≤n→iL 16 [.agg a.toArray,.bool false] 73 (cu f t) [t.tok] R (yk f t x.size)
structure Wp where
 As:Option Addr
 l:List Bi
 ek:Nat
 made:Int
 Al:Option Addr
 ls:List Lo
 dA:Nat
 xl:List Value
 e:Int
 al:Int
 ac:Int
def dQ (c2 c5:Value) (Am:Option Addr) (ms:List Pl) (cq:Nat) (t:Wp):List Value:=[.slice t.As t.l.length t.ek,.int .i64 t.made,c2,.slice Am ms.length cq,.slice t.Al t.ls.length t.dA,c5,.int .i64 t.e,.int .i64 t.al,.int .i64 t.ac]
def Wp.tok (t:Wp):bU:=⟨.slice t.Al t.ls.length t.dA,t.ls.length,t.xl,129,5⟩
def Wp.Ok (R:World) (t:Wp):Prop:=(cF t.As t.l.length t.ek∧a5 Bi.Cs 5 R t.As t.l)∧Good t.l∧0≤t.made∧dL Lo.Cs 5 R t.Al t.ls t.dA t.xl
def Wp.qh (t:Wp) (n:Nat):Prop:=t.l.length+1000*n≤485000000∧t.made+500000000*(n:Int)≤800000000000000∧t.ls.length+n≤1000000
def Wp.Up (t a:Wp) (n:Nat):Prop:=a.l.length+1000≤t.l.length+1000*n∧t.made≤a.made∧a.made≤t.made+500000000*(n:Int)∧a.ls.length≤t.ls.length+n
def Nm (c2 c5:Value) (Am:Option Addr) (ms:List Pl) (cq:Nat) (t:Wp) (n:Nat) (v:Value) (c:List Value) (d:List bU) (R':World):Prop:=∃a:Wp,c=dQ c2 c5 Am ms cq a∧d=[a.tok]∧a.Ok R'∧t.Up a n∧∃(y:Ty) (b:List Value),v= .agg b.toArray∧Ty.Cs R' y b
def uI (n:Nat):Prop:=∀{R:World} {c2 c5:Value} {Am:Option Addr} {ms:List Pl} {cq:Nat} {t:Wp} {a:List Value} {x:Ex},cF Am ms.length cq→a5 Pl.Cs 6 R Am ms→t.Ok R→t.qh x.size→Ex.Cs R x a→x.size≤n→iL 16 [.agg a.toArray,.bool true] 73 (dQ c2 c5 Am ms cq t) [t.tok] R (Nm c2 c5 Am ms cq t x.size)
def Nn:Ex→Nat
 | .mk _ _ _ ys _ _=>ys.length
theorem qi{ys:List Ex}(h:0<ys.length):(ys[0]).size+aO (ys.drop 1)=aO ys:=by
 cases ys with
 |nil=>cases h
 |cons a r=>rw[tu];rfl
theorem Rel.No(h:Rel hB bI ah a0 cj bR){g T:Nat}{cs:LV}(D:hB.w.heap.size≤g)(E:bR.heap[g]?=some (.cells cs.toArray T (0,0)))(s:∀k,k<bI.boxes.length→a0 k≠g)
 (K:∀r∈bI.rows,r.v.ownBlock≠some g) (J:∀b o u,ah.cell? ⟨b,o,none⟩=some u→g≠b):
 ∃p,p bI.boxes.length=g∧(∀k,k<bI.boxes.length→p k=a0 k)∧Rel hB {bI with boxes:=bI.boxes++ [(T,cs)]} ah p cj bR:=by
 have l:=h.own
 have c:∀k,k<bI.boxes.length→(if k=bI.boxes.length then g else a0 k)=a0 k:=fun k a=>if_neg (by omega)
 refine⟨fun k=>if k=bI.boxes.length then g else a0 k,by simp,c,?_⟩
 refine⟨h.size,h.defers,?_,?_,⟨?_,?_,l.row,?_,l.rows,?_⟩,h.cg,?_,h.rowAt,?_,?_⟩
 ·intro t x n
  rw[h.slot t x n]
  cases x with
  |val v=>rfl
  |ptr k o=>simp only[AV.den];rw[c k (h.lt t k o n)]
 ·intro t k o n
  have:=h.lt t k o n
  simp only[List.length_append,List.length_singleton];omega
 ·intro k z A a
  by_cases q:k<bI.boxes.length
  ·rw[List.getElem?_append_left q] at a
   simp only[c k q]
   exact l.box k z A a
  ·have I:k<(bI.boxes++ [(T,cs)]).length:=(List.getElem?_eq_some_iff.1 a).1
   simp only[List.length_append,List.length_singleton] at I
   have H:k=bI.boxes.length:=by omega
   subst H
   rw[List.getElem?_append_right (Nat.le_refl _)] at a
   simp only[Nat.sub_self,List.getElem?_cons_zero,Option.some.injEq,Prod.mk.injEq] at a
   obtain⟨rfl,rfl⟩:=a
   simp only[↓reduceIte]
   exact E
 ·intro i j F G e
  simp only[List.length_append,List.length_singleton] at F G
  by_cases m:i<bI.boxes.length
  ·by_cases f:j<bI.boxes.length
   ·rw[c i m,c j f] at e
    exact h.own.inj i j m f e
   ·rw[c i m,if_pos (by omega)] at e
    exact absurd e (s i m)
  ·by_cases f:j<bI.boxes.length
   ·rw[c j f,if_pos (by omega)] at e
    exact absurd e.symm (s j f)
   ·omega
 ·intro r y k a
  simp only[List.length_append,List.length_singleton] at a
  by_cases d:k<bI.boxes.length
  ·simp only[c k d]
   exact h.own.apart r y k d
  ·simp only[if_pos (show k=bI.boxes.length by omega)]
   exact K r y
 ·intro b o u hu
  obtain⟨B,C,h3⟩:=l.b9 b o u hu
  refine⟨B,fun k a=> ?_,h3⟩
  simp only[List.length_append,List.length_singleton] at a
  by_cases d:k<bI.boxes.length
  ·simp only[c k d];exact C k d
  ·simp only[if_pos (show k=bI.boxes.length by omega)]
   exact J b o u hu
 ·intro k a
  simp only[List.length_append,List.length_singleton] at a
  by_cases d:k<bI.boxes.length
  ·simp only[c k d];exact h.fO k d
  ·simp only[if_pos (show k=bI.boxes.length by omega)]
   exact .inl D
 ·have:=h.nb
  simp only[List.length_append,List.length_singleton];omega
 ·intro k a
  have:=h.nb
  rw[c k (by omega)]
  exact h.fP k a
def uJ (F:FuncId) (args:List Value) (T:Nat) (R:World) (eP:List Value→World→Prop):Prop:=
 ∀w:World,Own [] [] R (fun _=>0) w→Calls prog F args.toArray w fun E W=>∃g cs R',E= .returned (.pointer (some ⟨g,0,none⟩))∧w.heap.size≤g∧ih w (gC (fun _=>0) 0 []) R W R'∧Own [(T,cs)] [] R' (fun _=>g) W∧eP cs R'
def yl (C:er) (T:Nat) (eP:List Value→World→Prop) (E:Ending) (W:World):Prop:=∃g cs R',E= .returned (.pointer (some ⟨g,0,none⟩))∧(C.w.heap.size≤g∨C.G g)∧ih C.w C.G C.R0 W R'∧Own [(T,cs)] [] R' (fun _=>g) W∧eP cs R'
theorem Np{R:Wd}{c:Code}{args:LV}(u:prog.funcs[bk]?=some dx)(s:dx.body=some c)(y:dx.ntmps=ae)(j:Nat.ble args.length ae=true)(A:ij 0 (ik (args.map .val) 0)=true)
 (h:∀(w:Wd) (G:Nat→Prop) (ad:Nat→Nat),V ⟨ae,w,R,G,0,ad⟩ c (bodyPost prog dx (yl ⟨ae,w,R,G,0,ad⟩ ao mO)) ⟨ik (args.map .val) 0,[],[]⟩ R):uJ bk args ao R mO:=by
 intro w q
 have j:=hP j
 have hh:=h w (gC (fun _=>0) 0 []) (fun _=>0)
 have z:∀b,¬gC (fun _=>0) 0 [] b:=by
  rintro b (⟨k,l,-⟩|⟨r,d,-⟩)
  ·omega
  ·cases d
 have e:(args.map AV.val).map (AV.den fun _=>0)=args:=by
  rw[List.map_map]
  exact List.map_id'' (fun _=>rfl) args
 have i:=calls_of_wp u s (R:=yl ⟨ae,w,R,gC (fun _=>0) 0 [],0,fun _=>0⟩ ao mO) (args:=((args.map AV.val).map (AV.den fun _=>0)).toArray) (hh (fun _=>0) _ w ?_)
 ·rw[e] at i
  refine i.mono ?_
  rintro E W ⟨g,cs,R',m,a,h3,n,p⟩
  exact⟨g,cs,R',m,a.resolve_right (z g),h3,n,p⟩
 ·refine⟨?_,rfl,fun t x f=> ?_,fun t k o f=>qy A t k o f,q,⟨rfl,rfl,rfl,a9 _,fun _ _ _=>rfl,fun _ _ _ _ hu=> .inl hu,Sub.refl R⟩,fun k l=>absurd l (Nat.not_lt_zero _),fun r d=>(by cases d),a9 _,fun _ _=>rfl⟩
  ·simp only[Array.size_append,List.size_toArray,List.length_map,Array.size_replicate,y];omega
  ·obtain⟨-,a⟩:=nV (args.map .val) 0 t x f
   simp only[Nat.sub_zero] at a
   have v:=(List.getElem?_eq_some_iff.1 a).1
   rw[Array.getElem?_append_left (by simpa using v)]
   rw[List.getElem?_toArray,List.getElem?_map,a]
   rfl
section
variable{C:er}{Q:Exit→Act→Wd→Prop}{S:St}{R:Wd}
theorem Nq(g:dx.results=#[.tmp ao])(f:look S.bW ao=some (.ptr aX 0))(d:S.boxes[aX]?=some (ae,aj))(k:mO aj R):eY C (bodyPost prog dx (yl C ae mO)) .ret S R:=by
 intro ad a W b
 have e:=(List.getElem?_eq_some_iff.1 d).1
 have l:=b.slot ao _ f
 refine⟨b.defers,.pointer (some ⟨ad aX,0,none⟩),?_,ad aX,aj,R,rfl,b.fO aX e,b.cg,?_,k⟩
 ·rw[kt,g]
  have:(mW a.tmps (.tmp ao)).run prog W= .ok (.pointer (some ⟨ad aX,0,none⟩)) W:=by
   simp only[mW,Sem.run_pure,Array.getD_eq_getD_getElem?,l]
   rfl
  simp[this]
 ·exact b.own.sub (fun _=>aX) [(ae,aj)] (fun i c=>by
   have:i=0:=by simpa using c
   subst this
   exact⟨e,d⟩) (fun i j c h _=>by simp at c h;omega) (List.nil_sublist _)
end
section
variable{C:er}{ops:Array Oper}{Q:Exit→Act→Wd→Prop}{rest:List Oper}{sl:List (Nat×AV)}{bx:List Bx}{rw:List bU}{R:Wd}{d:Nat}{ty:TypeId}{pos:String}{af:Array Edge}
theorem Nr{T:Nat}(m:Nat)(P:uJ bk aj T R mO)(A:aF bk)(S:fb ⟨sl,bx,rw⟩ c8 (aj.map .val))(G:Nat.blt d C.N=true)(J:bx.length=m)
 (k:∀cs R',Sub R R'→mO cs R'→VL C ops Q rest ⟨(d,.ptr m 0)::sl,bx++ [(T,cs)],rw⟩ R'):VL C ops Q (⟨some d,.call {callee:= .value (.func bk),args:=c8,argTypes:=fi},ty,pos,af,none⟩::rest) ⟨sl,bx,rw⟩ R:=by
 intro ad a W c
 refine wpList_plain rfl fun K D=> ?_
 unfold Oper.wp
 have e:(aj.map AV.val).map (AV.den ad)=aj:=by
  rw[List.map_map]
  exact List.map_id'' (fun _=>rfl) aj
 rw[k7,S.eval c.slot,j0 A,e]
 have p:=c.own
 have F:Own [] [] R (fun _=>0) W:=p.sub (fun i=>i) [] (fun i f=>by cases f) (fun i j f=>by cases f) (eH _)|>fun h=>⟨fun k T cs l=>(by cases l),fun i j f=>absurd f (Nat.not_lt_zero _),fun r c=>(by cases c),fun r c=>(by cases c),List.Pairwise.nil,fun b o u hu=>⟨(h.b9 b o u hu).1,fun k l=>absurd l (Nat.not_lt_zero _),fun r c=>(by cases c)⟩⟩
 refine(P W F).mono ?_
 rintro E W' ⟨g,cs,R',rfl,I,n,s,M⟩
 have L:Own [] [] R' (fun i=>ad i) W':=⟨fun k T cs l=>(by cases l),fun i j f=>absurd f (Nat.not_lt_zero _),fun r c=>(by cases c),fun r c=>(by cases c),List.Pairwise.nil,fun b o u hu=>⟨(s.b9 b o u hu).1,fun k l=>absurd l (Nat.not_lt_zero _),fun r c=>(by cases c)⟩⟩
 have v:∀b,gC (fun _=>0) 0 [] b→gC (fun i=>ad i) 0 [] b:=by
  rintro b (⟨k,l,-⟩|⟨r,c,-⟩)
  ·omega
  ·cases c
 have U:∀b,¬gC (fun i=>ad i) 0 [] b:=by
  rintro b (⟨k,l,-⟩|⟨r,c,-⟩)
  ·omega
  ·cases c
 have H:ih W (gC (fun i=>ad i) ([]:List Bx).length []) R W' R':=⟨n.os,n.tape,n.output,n.size,fun b q B=>n.g6 b q (fun h=>B (v b h)),fun b o u q hu=>(n.fN b o u q hu).imp id (v b),n.sub⟩
 have y:=c.called (rs:=rw) (ts:=[]) rfl (fun i=>i) (fun i f=>by cases f) H L rfl (fun r c=>by cases c) bx rfl (fun i f=>by cases f) (fun _ _=>rfl)
 subst J
 obtain⟨w,h3,_,z⟩:=y.No (g:=g) (T:=T) (cs:=cs) (dS c.cg.size I) (s.box 0 T cs rfl) (fun k l e=>by
  have:=p.ii (k:=k) l
  omega) (fun r O e=>by
  have:=iH (p.row r O) e
  omega) (fun b o u hu=>(s.b9 b o u hu).2.1 0 (by simp))
 have t:=z.put (d:=d) (x:= .ptr bx.length 0) (dn G) (fun k o e=>by cases e;simp)
 simp only[AV.den,h3] at t
 exact D _ _ (k cs R' n.sub M w _ W' t)
end
theorem qj:dO 70 129 5 72:=by unfold dO;kernel_rfl
theorem iS:aF 16:=by unfold aF;kernel_rfl
theorem mc:aF 46:=by unfold aF;kernel_rfl
theorem Ns(U:oP ae){f:Wf}{t:Wt}{x:Ex}(bV:f.Ok ah)(cm:t.Ok ah)(cc:t.qh x.size)(cg:f.ls.length+x.size≤1000000)(cw:Ex.Cs ah x aj)(dq:x.size≤ae+1)(bO:Nn x=2):iL 48 [.agg aj.toArray] 73 (cu f t) [t.tok] ah (yk f t x.size):=by
 obtain⟨hM,aB,hX,Am,ms,cq,Al,ls,dA⟩:=f
 obtain⟨As,l,ek,made,bn,fs,bB,cM,e,al,ac⟩:=t
 obtain⟨⟨p,s⟩,⟨o,r⟩,m,q⟩:=bV
 obtain⟨⟨aM,aU⟩,aI,b8,⟨aF,aY,aR,aA,ar⟩⟩:=cm
 obtain⟨cd,ce,cf⟩:=cc
 dsimp only at p s o r m q aM aU aI b8 aF aY aR aA ar cd ce cf cg
 obtain⟨cz,y,ne,a,cF,bG⟩:=x
 obtain⟨cU,dj,rfl,_,g⟩:=cw
 have dI:(.mk cz y ne a cF bG:Ex).size=aO a+1:=fh _ _ _ _ _ _
 have dx:aO (a.take 0)=0:=by rw[List.take_zero];exact kD
 have dG:a.length≤aO a:=k1 _
 have dy:a.length=2:=bO
 replace g:=c9.1 g
 refine kI func48 rfl ntmps48 rfl rfl fun w G ad=> ?_
 refine sV 11 rfl ?_
 obtain⟨da,dS,_,an,⟨bb,bi,bh,bm,V,z⟩,aw,⟨cR,dg,rfl,b3,L⟩,ax⟩:=cn bM g 0 (by omega)
 replace L:=c9.1 L
 refine vp (a3 (i:=0) an rfl rfl (by omega) cZ) rfl (vp (cl rfl ax rfl) rfl ?_)
 have dz:aO (a.take 1)=aO (a.take 0)+(.mk bb bi bh bm V z:Ex).size:=by have b:=gL (ys:=a) (j:=0) (by omega);rw[←aw] at b;exact b
 have dD:aO (a.take 1)≤aO a:=eJ _ _
 have dH:(.mk bb bi bh bm V z:Ex).size+aO (a.drop 1)=aO a:=by have b:=qi (ys:=a) (by omega);rw[←aw] at b;exact b
 refine ep (rs:=[]) (U (f:=⟨hM,aB,hX,Am,ms,cq,Al,ls,dA⟩) (t:=⟨As,l,ek,made,bn,fs,bB,cM,e,al,ac⟩) ⟨⟨p,s⟩,⟨o,r⟩,m,q⟩ ⟨⟨aM,aU⟩,aI,by(try simp only[ll]);omega,⟨aF,aY,aR,aA,ar⟩⟩ ⟨by(try simp only[ll]);omega,by(try simp only[ll]);omega,by(try simp only[ll]);omega⟩ (by(try simp only[ll]);omega) (de b3 L) (by(try simp only[ll]);omega)) iS rfl rfl rfl rfl ?_
 rintro _ _ _ c3 c ⟨⟨bq,cC,bE,be,Y,am,ab,bk,bK,bz,bu⟩,rfl,rfl,⟨⟨H,K⟩,F,ca,⟨E,T,J,D,C⟩⟩,⟨a4,cp,ct,a9⟩,⟨dK,dW,dQ,dZ⟩,_,rfl,⟨cW,dl,rfl,I,h⟩⟩
 dsimp only at H K F ca E T J D C a4 cp ct a9
 (try simp only[ll] at a4 a9)
 replace h:=a8.1 h
 refine rL 6 rfl (vp (bJ (vs:=[(0,zI 2),(1,.string ⟨#[73,110,116]⟩)]) (v:= .agg #[zI 2,.string ⟨#[73,110,116]⟩,zI 0,zS]) rfl (fun W=>by kernel_rfl)) rfl (rL 12 rfl ?_))
 cases dt:(y.toList==(⟨#[63]⟩:BA).toList)
 refine rV 4 rfl ?_
 refine bZ mixed (fun k=>k==1||k==3||k==4) fun aq=> ?_
 refine bL [0,1,2,3,4] rfl (by kernel_rfl) id ?_
 have bT:=fun j u hu=>c _ _ _ (ax j u hu)
 refine vt 5 rfl (a3 (i:=0) an rfl rfl (by omega) cZ) rfl (by kernel_rfl) id (bL [6] rfl (by kernel_rfl) id (vt 7 rfl (cl rfl (nc (off:=4) (n:=2) bT rfl) rfl) rfl (by kernel_rfl) id (a7 [8] (by kernel_rfl) rfl ?_)))
 refine lx rfl (ts:=[]) (rs:=_) (lW (ts:=[]) H K F (by(try simp only[ll]);omega) (aP I h) (aP eg (ew (P:=Ty.Cs) (size:=4) _)) V z) mc rfl rfl rfl rfl rfl ?_ bf
 rintro _ _ _ c0 d ⟨rfl,cB,bp,bD,bI,bx,bt,rfl,b1,ci,bX,dv⟩
 refine bS (by kernel_rfl) (rD 6 rfl ?_)
 obtain⟨db,dT,_,ao,⟨cx,cK,cI,cN,bc,ag⟩,bP,⟨cS,dh,rfl,b4,M⟩,ay⟩:=cn bM (aC bM g (ai c d)) 1 (by omega)
 replace M:=c9.1 M
 refine vp (a3 (i:=1) ao rfl rfl (by omega) cZ) rfl (vp (cl rfl ay rfl) rfl ?_)
 have dB:aO (a.take 2)=aO (a.take 1)+(.mk cx cK cI cN bc ag:Ex).size:=by have b:=gL (ys:=a) (j:=1) (by omega);rw[←bP] at b;exact b
 have dE:aO (a.take 2)≤aO a:=eJ _ _
 refine ep (rs:=[]) (U (f:=⟨hM,aB,hX,Am,ms,cq,Al,ls,dA⟩) (t:=⟨bp,cB,bD,be,Y,am,ab,bk,bI,bx,bt⟩) ⟨⟨p,(aC eE s (ai c d))⟩,⟨o,(aC eE r (ai c d))⟩,m,(aC gv q (ai c d))⟩ ⟨⟨b1,ci⟩,bX,by(try simp only[ll]);omega,⟨bg ho d E,eL T d,J,D,C⟩⟩ ⟨by(try simp only[ll]);omega,by(try simp only[ll]);omega,by(try simp only[ll]);omega⟩ (by(try simp only[ll]);omega) (de b4 M) (by(try simp only[ll]);omega)) iS rfl rfl rfl rfl ?_
 rintro _ _ _ c1 ck ⟨⟨cP,dM,dd,cG,X,A,aa,bj,dn,c7,c5⟩,rfl,rfl,⟨⟨aN,aV⟩,aJ,b9,⟨aG,aZ,aS,aD,au⟩⟩,⟨a1,co,cs,a6⟩,⟨dJ,dV,dP,dY⟩,_,rfl,⟨cV,dk,rfl,b6,O⟩⟩
 dsimp only at aN aV aJ b9 aG aZ aS aD au a1 co cs a6
 (try simp only[ll] at a1 a6)
 replace O:=a8.1 O
 refine rL 5 rfl ?_
 refine bZ mixed (fun k=>k==1||k==4||k==5) fun aq=> ?_
 refine bL [0,1,2,3,4] rfl (by kernel_rfl) id ?_
 have bR:=fun j u hu=>ck _ _ _ (ay j u hu)
 refine vt 5 rfl (a3 (i:=1) ao rfl rfl (by omega) cZ) rfl (by kernel_rfl) id (bL [6] rfl (by kernel_rfl) id (vt 7 rfl (cl rfl (nc (off:=4) (n:=2) bR rfl) rfl) rfl (by kernel_rfl) id (a7 [8] (by kernel_rfl) rfl ?_)))
 refine lx rfl (ts:=[]) (rs:=_) (lW (ts:=[]) aN aV aJ (by(try simp only[ll]);omega) (aP b6 O) (aP eg (ew (P:=Ty.Cs) (size:=4) _)) bc ag) mc rfl rfl rfl rfl rfl ?_ bf
 rintro _ _ _ c2 aX ⟨rfl,cE,br,bF,bN,bA,bv,rfl,b2,cj,bY,dw⟩
 refine bS (by kernel_rfl) (rD 8 rfl ?_)
 cases dr:(y.toList==(⟨#[61,61]⟩:BA).toList)
 refine rL 6 rfl ?_
 cases ds:(y.toList==(⟨#[60]⟩:BA).toList)
 refine rV 10 rfl (ww 1 ?_)
 rotate_left
 refine rV 3 rfl (vp (bJ (vs:=[(0,zI 2),(1,.string ⟨#[66,111,111,108]⟩)]) (v:= .agg #[zI 2,.string ⟨#[66,111,111,108]⟩,zI 0,zS]) rfl (fun W=>by kernel_rfl)) rfl (rL 5 rfl (ww 1 ?_)))
 rotate_left
 refine rL 9 rfl (vp (bJ (vs:=[(0,zI 2),(1,.string ⟨#[66,111,111,108]⟩)]) (v:= .agg #[zI 2,.string ⟨#[66,111,111,108]⟩,zI 0,zS]) rfl (fun W=>by kernel_rfl)) rfl (rL 5 rfl (ww 1 ?_)))
 rotate_left
 refine rV 6 rfl ?_
 obtain⟨dc,dU,_,ap,⟨cy,cL,cJ,cO,bd,ak⟩,bQ,⟨cT,di,rfl,b5,N⟩,az⟩:=cn bM (aC bM g c) 1 (by omega)
 replace N:=c9.1 N
 refine vp (a3 (i:=1) ap rfl rfl (by omega) cZ) rfl (vp (cl rfl az rfl) rfl ?_)
 have dC:aO (a.take 2)=aO (a.take 1)+(.mk cy cL cJ cO bd ak:Ex).size:=by have b:=gL (ys:=a) (j:=1) (by omega);rw[←bQ] at b;exact b
 have dF:aO (a.take 2)≤aO a:=eJ _ _
 refine ep (rs:=[]) (U (f:=⟨hM,aB,hX,Am,ms,cq,Al,ls,dA⟩) (t:=⟨bq,cC,bE,be,Y,am,ab,bk,bK,bz,bu⟩) ⟨⟨p,(aC eE s c)⟩,⟨o,(aC eE r c)⟩,m,(aC gv q c)⟩ ⟨⟨H,K⟩,F,by(try simp only[ll]);omega,⟨E,T,J,D,C⟩⟩ ⟨by(try simp only[ll]);omega,by(try simp only[ll]);omega,by(try simp only[ll]);omega⟩ (by(try simp only[ll]);omega) (de b5 N) (by(try simp only[ll]);omega)) iS rfl rfl rfl rfl ?_
 rintro _ _ _ c4 S ⟨⟨cQ,dO,df,cH,Z,B,af,bl,dp,c8,c6⟩,rfl,rfl,⟨⟨aQ,aW⟩,aL,cb,⟨aH,a0,aT,aE,av⟩⟩,⟨a5,cr,cv,ba⟩,⟨dL,dX,dR,d0⟩,_,rfl,⟨cX,dm,rfl,b7,Q⟩⟩
 dsimp only at aQ aW aL cb aH a0 aT aE av a5 cr cv ba
 (try simp only[ll] at a5 ba)
 replace Q:=a8.1 Q
 refine rL 5 rfl ?_
 refine bZ mixed (fun k=>k==1||k==3||k==5) fun aq=> ?_
 refine bL [0,1,2,3,4] rfl (by kernel_rfl) id ?_
 have bU:=fun j u hu=>S _ _ _ (az j u hu)
 refine vt 5 rfl (a3 (i:=1) ap rfl rfl (by omega) cZ) rfl (by kernel_rfl) id (bL [6] rfl (by kernel_rfl) id (vt 7 rfl (cl rfl (nc (off:=4) (n:=2) bU rfl) rfl) rfl (by kernel_rfl) id (a7 [8] (by kernel_rfl) rfl ?_)))
 refine lx rfl (ts:=[]) (rs:=_) (lW (ts:=[]) aQ aW aL (by(try simp only[ll]);omega) (aP I (aC a2 h S)) (aP b7 Q) bd ak) mc rfl rfl rfl rfl rfl ?_ bf
 rintro _ _ _ cY R ⟨rfl,cA,bo,bC,bH,bw,bs,rfl,b0,ch,bW,du⟩
 refine bS (by kernel_rfl) (rD 9 rfl ?_)
 exact dN results48 (aK rfl rfl cD) (ts:=[⟨.slice Z B.length af,B.length,bl,135,6⟩]) (.cons_cons _ .slnil) ⟨_,rfl,⟨bo,cA,bC,cH,Z,B,af,bl,bH,bw,bs⟩,rfl,rfl,⟨⟨b0,ch⟩,bW,by(try simp only[ll]);omega,⟨bg ho R aH,eL a0 R,aT,aE,av⟩⟩,⟨by(try simp only[ll]);omega,by(try simp only[ll]);omega,by(try simp only[ll]);omega,by(try simp only[ll]);omega⟩,_,_,rfl,(aP I (aC a2 h (ai S R)))⟩
 any_goals
  refine uw 1 ?_
  exact dN results48 (aK rfl rfl cD) (ts:=[⟨.slice X A.length aa,A.length,bj,135,6⟩]) (.cons_cons _ .slnil) ⟨_,rfl,⟨br,cE,bF,cG,X,A,aa,bj,bN,bA,bv⟩,rfl,rfl,⟨⟨b2,cj⟩,bY,by(try simp only[ll]);omega,⟨bg ho aX aG,eL aZ aX,aS,aD,au⟩⟩,⟨by(try simp only[ll]);omega,by(try simp only[ll]);omega,by(try simp only[ll]);omega,by(try simp only[ll]);omega⟩,_,_,rfl,(aP eg (ew (P:=Ty.Cs) (size:=4) _))⟩
theorem Dw(aU:oP ae){f:Wf}{t:Wt}{x:Ex}(bu:f.Ok ah)(bQ:t.Ok ah)(bH:t.qh x.size)(bN:f.ls.length+x.size+1≤1000000)(bt:Lo.Cs ah Nt aj)(bW:Ex.Cs ah x bj)(ck:x.size≤ae):iL 49 [.agg aj.toArray,.agg bj.toArray] 73 (cu f t) [t.tok] ah (yk f t x.size):=by
 obtain⟨hM,aB,hX,Am,ms,cq,Al,ls,dA⟩:=f
 obtain⟨As,l,ek,made,Z,fs,af,aV,e,al,ac⟩:=t
 obtain⟨⟨M,R⟩,⟨L,Q⟩,K,P⟩:=bu
 obtain⟨⟨N,S⟩,J,bE,⟨I,V,O,H,F⟩⟩:=bQ
 obtain⟨bI,bJ,bK⟩:=bH
 dsimp only at M R L Q K P N S J bE I V O H F bI bJ bK bN
 obtain⟨bX,b4,ne,W,b1,bd⟩:=x
 obtain⟨b7,cf,rfl,aF,A⟩:=bW
 have cm:(.mk bX b4 ne W b1 bd:Ex).size=aO W+1:=fh _ _ _ _ _ _
 have cl:aO (W.take 0)=0:=by rw[List.take_zero];exact kD
 obtain⟨a,⟨b,d,c,g⟩⟩:=Nt
 obtain⟨_,rfl,⟨p,q,rfl,z,r⟩⟩:=bt
 replace A:=c9.1 A
 replace r:=a8.1 r
 (try dsimp only at z r)
 refine kI func49 rfl ntmps49 rfl rfl fun w G ad=> ?_
 refine sV 17 rfl ?_
 refine bZ mixed (fun k=>k==1) fun aq=> ?_
 refine bL [0,1,3] rfl (by kernel_rfl) id ?_
 refine mo 129 5 ?_
 refine a7 [2,4] (by kernel_rfl) rfl ?_
 obtain⟨C,bP,aw⟩:=id P
 refine fW (news:=C) rfl qj rfl rfl bP K.2.2.2 (aL.one gv aw) (n1:=ls.length) (by(try simp only[ll])<;>omega) (by(try simp only[ll]);omega) rfl rfl ?_ ?_
 intro b5 ci a1 o _ _ _ _
 have bA:aL Lo.Cs a1 ls ([]++C):=bg gv o (aw)
 refine a7 [4] (by kernel_rfl) rfl ?_
 refine eW pI rfl ?_ bf
 intro bi ca m bv
 refine iJ ?_
 refine a7 [5] (by kernel_rfl) rfl ?_
 refine fW (news:=[.string a,zI b,.string d,zI c,.slice p g.length q]) rfl qj rfl rfl (cd rfl bv) (fun h=>by cases h) (fun u hu=>gv.one (mD (s:=a) (aP z (aC a2 r (ai o m)))) u hu) (n1:=(ls++ [(⟨a,(.mk b d c g:Ty)⟩:Lo)]).length) (by(try simp only[ll])<;>omega) (by(try simp only[ll]);omega) rfl rfl ?_ bf
 intro X am a0 v bl bm bn bo
 have bB:aL Lo.Cs a0 (ls++ [(⟨a,(.mk b d c g:Ty)⟩:Lo)]) (([]++C)++ [.string a,zI b,.string d,zI c,.slice p g.length q]):=bg gv v (c6 (bg gv m bA) (c4 (mD (s:=a) (aP z (aC a2 r (ai o m))))))
 refine bL [6,7,1008] rfl (by kernel_rfl) id (bS (by kernel_rfl) (rD 5 rfl ?_))
 refine o8 _ ((List.Perm.swap _ _ _).trans (List.Perm.cons _ (List.Perm.swap _ _ _))) ?_
 refine ep (rs:=[⟨.slice X (ls++ [(⟨a,(.mk b d c g:Ty)⟩:Lo)]).length am,(ls++ [(⟨a,(.mk b d c g:Ty)⟩:Lo)]).length,(([]++C)++ [.string a,zI b,.string d,zI c,.slice p g.length q]),129,5⟩,⟨.slice (some ⟨bi,0,none⟩) 1 1,1,[.string a,zI b,.string d,zI c,.slice p g.length q],129,5⟩]) (aU (f:=⟨hM,aB,hX,Am,ms,cq,X,(ls++ [(⟨a,(.mk b d c g:Ty)⟩:Lo)]),am⟩) (t:=⟨As,l,ek,made,Z,fs,af,aV,e,al,ac⟩) ⟨⟨M,(aC eE R (ai (ai o m) v))⟩,⟨L,(aC eE Q (ai (ai o m) v))⟩,⟨bl,bm,by(try simp only[ll]);omega,bn⟩,(cz bo bB)⟩ ⟨⟨N,(aC eM S (ai (ai o m) v))⟩,J,by(try simp only[ll]);omega,⟨bg ho (ai (ai o m) v) I,eL V (ai (ai o m) v),O,H,F⟩⟩ ⟨by(try simp only[ll]);omega,by(try simp only[ll]);omega,by(try simp only[ll]);omega⟩ (by(try simp only[ll]);omega) (de aF (aC bM A (ai (ai o m) v))) (by(try simp only[ll]);omega)) iS rfl rfl rfl rfl ?_
 rintro _ _ _ cb _ ⟨⟨aY,bY,bb,b2,aa,D,ag,aW,be,a9,a5⟩,rfl,rfl,⟨⟨aD,aI⟩,az,bF,⟨ax,aM,aG,ar,ao⟩⟩,⟨aQ,bR,bU,aS⟩,⟨cn,cs,cp,cv⟩,_,rfl,⟨b8,cg,rfl,bx,T⟩⟩
 dsimp only at aD aI az bF ax aM aG ar ao aQ bR bU aS
 (try simp only[ll] at aQ aS)
 replace T:=a8.1 T
 refine rL 20 rfl ?_
 exact dN results49 (aK rfl rfl cD) (ts:=[⟨.slice aa D.length ag,D.length,aW,135,6⟩]) (.cons_cons _ (.cons _ (.cons _ .slnil))) ⟨_,rfl,⟨aY,bY,bb,b2,aa,D,ag,aW,be,a9,a5⟩,rfl,rfl,⟨⟨aD,aI⟩,az,by(try simp only[ll]);omega,⟨ax,aM,aG,ar,ao⟩⟩,⟨by(try simp only[ll]);omega,by(try simp only[ll]);omega,by(try simp only[ll]);omega,by(try simp only[ll]);omega⟩,_,_,rfl,(aP bx T)⟩
 refine eW pI rfl ?_ bf
 intro bk cc n bw
 refine mo 129 5 ?_
 refine a7 [2] (by kernel_rfl) rfl ?_
 obtain⟨B,bO,av⟩:=(aC gv P n)
 refine fW (news:=B) rfl qj rfl rfl bO K.2.2.2 (aL.one gv av) (n1:=ls.length) (by(try simp only[ll])<;>omega) (by(try simp only[ll]);omega) rfl rfl ?_ bf
 intro b6 cj a3 i _ _ _ _
 have bC:aL Lo.Cs a3 ls ([]++B):=bg gv i (av)
 refine a7 [5] (by kernel_rfl) rfl ?_
 refine fW (news:=[.string a,zI b,.string d,zI c,.slice p g.length q]) rfl qj rfl rfl (cd rfl (fun j u hu=>i _ _ _ (bw j u hu))) (fun h=>by cases h) (fun u hu=>gv.one (mD (s:=a) (aP z (aC a2 r (ai n i)))) u hu) (n1:=(ls++ [(⟨a,(.mk b d c g:Ty)⟩:Lo)]).length) (by(try simp only[ll])<;>omega) (by(try simp only[ll]);omega) rfl rfl ?_ bf
 intro Y an a4 y bp bq br bs
 have bD:aL Lo.Cs a4 (ls++ [(⟨a,(.mk b d c g:Ty)⟩:Lo)]) (([]++B)++ [.string a,zI b,.string d,zI c,.slice p g.length q]):=bg gv y (c6 bC (c4 (mD (s:=a) (aP z (aC a2 r (ai n i))))))
 refine bL [6,7,1008] rfl (by kernel_rfl) id (bS (by kernel_rfl) (rD 5 rfl ?_))
 refine o8 _ ((List.Perm.swap _ _ _).trans (List.Perm.cons _ ((List.Perm.swap _ _ _).trans (List.Perm.cons _ (List.Perm.swap _ _ _))))) ?_
 refine ep (rs:=[⟨.slice Y (ls++ [(⟨a,(.mk b d c g:Ty)⟩:Lo)]).length an,(ls++ [(⟨a,(.mk b d c g:Ty)⟩:Lo)]).length,(([]++B)++ [.string a,zI b,.string d,zI c,.slice p g.length q]),129,5⟩,⟨.slice (some ⟨bk,0,none⟩) 1 1,1,[.string a,zI b,.string d,zI c,.slice p g.length q],129,5⟩,⟨zS,0,[],129,5⟩]) (aU (f:=⟨hM,aB,hX,Am,ms,cq,Y,(ls++ [(⟨a,(.mk b d c g:Ty)⟩:Lo)]),an⟩) (t:=⟨As,l,ek,made,Z,fs,af,aV,e,al,ac⟩) ⟨⟨M,(aC eE R (ai (ai n i) y))⟩,⟨L,(aC eE Q (ai (ai n i) y))⟩,⟨bp,bq,by(try simp only[ll]);omega,br⟩,(cz bs bD)⟩ ⟨⟨N,(aC eM S (ai (ai n i) y))⟩,J,by(try simp only[ll]);omega,⟨bg ho (ai (ai n i) y) I,eL V (ai (ai n i) y),O,H,F⟩⟩ ⟨by(try simp only[ll]);omega,by(try simp only[ll]);omega,by(try simp only[ll]);omega⟩ (by(try simp only[ll]);omega) (de aF (aC bM A (ai (ai n i) y))) (by(try simp only[ll]);omega)) iS rfl rfl rfl rfl ?_
 rintro _ _ _ ce _ ⟨⟨aZ,b0,bc,b3,ab,E,ak,aX,bh,ba,a6⟩,rfl,rfl,⟨⟨aE,aJ⟩,aA,bG,⟨ay,aN,aH,au,ap⟩⟩,⟨aR,bT,bV,aT⟩,⟨co,ct,cr,cw⟩,_,rfl,⟨b9,ch,rfl,bz,U⟩⟩
 dsimp only at aE aJ aA bG ay aN aH au ap aR bT bV aT
 (try simp only[ll] at aR aT)
 replace U:=a8.1 U
 refine rL 20 rfl ?_
 exact dN results49 (aK rfl rfl cD) (ts:=[⟨.slice ab E.length ak,E.length,aX,135,6⟩]) (.cons_cons _ (.cons _ (.cons _ (.cons _ .slnil)))) ⟨_,rfl,⟨aZ,b0,bc,b3,ab,E,ak,aX,bh,ba,a6⟩,rfl,rfl,⟨⟨aE,aJ⟩,aA,by(try simp only[ll]);omega,⟨ay,aN,aH,au,ap⟩⟩,⟨by(try simp only[ll]);omega,by(try simp only[ll]);omega,by(try simp only[ll]);omega,by(try simp only[ll]);omega⟩,_,_,rfl,(aP bz U)⟩
end Go.Proofs.YthnogncknmhgoaaGreat.Vm
