/- Lemmas for ModelOrs (8 of 15). No conditions. -/
import Derived.Lib.AppendZeros
import Derived.Lib.LazyBuf
import Derived.WalkKit
import Derived.ProofKit
import Derived.Shelf.SlMaps.Clone
import Derived.Test.YthnogncknmhgoaaGreatM3
import Derived.Test.YthnogncknmhgoaaGreatM6
import Derived.Test.YthnogncknmhgoaaGreatM5
set_option linter.all false
set_option maxRecDepth 100000
set_option maxHeartbeats 485000000
open Go.Proofs.Tryz
namespace Go.Proofs.YthnogncknmhgoaaGreat.Mo
open Data Vm
variable{aY:BA}{ca:Bool}{aM:Ex}{aI gA:List Nat}{dY:List Rl}{ae:Nat}{jM:Rl}{cW wC:Type}{Ba:Unit}
abbrev Env:=ByteArray→Option Nat
def Env.nil:Env:=fun _=>none
def Env.up (v:Env) (s:ByteArray) (i:Nat):Env:=fun t=>if t=s then some i else v t
inductive PC where
 |dF (e:Ex) (v:Env)
 |link (j:Nat)
 |unknown
 |num (n:Int)
 |cw (s:ByteArray) (l:List Nat)
 |fn (s:ByteArray) (l:List Nat)
structure PS where
 cells:List PC
 ay:Nat
 jJ:List Int
abbrev tS:=Nat×Int
abbrev ei (α:Type):=Except tS (α×PS)
def M (α:Type):=PS→Option (ei α)
def M.bind {α β:Type} (m:M α) (k:α→M β):M β:=fun st=>
 match m st with
 |none=>none
 |some (.error t)=>some (.error t)
 |some (.ok (a,a1))=>k a a1
def M.ret {α:Type} (a:α):M α:=fun st=>some (.ok (a,st))
def stop {α:Type} (w:Nat):M α:=fun _=>some (.error (w,0))
def tick:M Unit:=fun st=>if st.ay=0 then some (.error (5,0)) else some (.ok ((),{st with ay:=st.ay -1}))
def pick (n:Nat):M Nat:=fun st=>
 match st.jJ with
 |[]=>some (.error (1,(n:Int)))
 |k::r=>if k<0∨(n:Int)≤k then some (.error (2,0)) else some (.ok (k.toNat,{st with jJ:=r}))
def cell (i:Nat):M PC:=fun st=>some (.ok (st.cells.getD i .unknown,st))
def put (i:Nat) (c:PC):M Unit:=fun st=>some (.ok ((),{st with cells:=st.cells.set i c}))
def new (c:PC):M Nat:=fun st=>some (.ok (st.cells.length,{st with cells:=st.cells++ [c]}))
def news:Nat→M (List Nat)
 |0=>M.ret []
 |n+1=>(new .unknown).bind fun i=>(news n).bind fun l=>M.ret (i::l)
def later (e:Ex) (v:Env):M Nat:=
 match(if e.k=1 then v e.s else none) with
 |some i=>M.ret i
 |none=>new (.dF e v)
def fz (v:Env):List Ex→M (List Nat)
 |[]=>M.ret []
 |e::r=>(later e v).bind fun i=>(fz v r).bind fun l=>M.ret (i::l)
def bV (e:Ex):Ex:=match e.ys with|h::_=>if e.k=4 then h else e|[]=>e
def cA (e:Ex):List Ex:=match e.ys with|_::r=>if e.k=4 then r else []|[]=> []
def iN:ByteArray:=⟨#[84,114,117,101]⟩
def ox:ByteArray:=⟨#[70,97,108,115,101]⟩
def jK (b:Bool):PC:= .cw (if b then iN else ox) []
structure cT where
 force:Nat→M Nat
 eval:Ex→Env→M Nat
 func:ByteArray→List Nat→M Nat
 fU:Ex→Nat→Env→M Env
 whole:Nat→List Nat→M (List Nat)
 read:Nat→List Nat→Nat→M (Ty×List Nat×Nat)
abbrev cU:=ByteArray→List Rl
def apply (f:cT) (c:Nat) (args:List Nat):M Nat:=
 match args with
 |[]=>M.ret c
 |a::r=>(cell c).bind fun
  | .fn s l=>f.func s (l++(a::r))
  |_=>stop 3
def name (f:cT) (s:ByteArray) (v:Env) (args:List Nat):M Nat:=
 match v s with
 |some i=>(f.force i).bind fun c=>apply f c args
 |none=>f.func s args
def jo (f:cT) (c:Nat):M Nat:=(cell c).bind fun
 | .link j=>M.ret j
 | .dF e v=>(f.eval e v).bind fun x=>(put c (.link x)).bind fun _=>M.ret x
 |_=>M.ret c
def branch (c:Nat):M Nat:=(cell c).bind fun
 | .unknown=>(pick 2).bind fun k=>(put c (jK (k==0))).bind fun _=>M.ret (if k==0 then 1 else 2)
 | .cw s _=>if s=iN then M.ret 1 else if s=ox then M.ret 2 else stop 3
 |_=>stop 3
def gQ (f:cT) (e:Ex) (v:Env):M Int:=(later e v).bind fun i=>(f.force i).bind fun c=>(cell c).bind fun
 | .num n=>M.ret n
 |_=>stop 3
def e7 (s:ByteArray):Nat:=
 if s=⟨#[43]⟩ then 1 else if s=⟨#[45]⟩ then 2 else if s=⟨#[42]⟩ then 3 else if s=⟨#[61,61]⟩ then 4 else if s=⟨#[60]⟩ then 5 else 0
def fits (n:Int):Bool:=decide (-2147483647≤n)&& decide (n≤2147483647)
def bounded (n:Int):Int×Int:=if fits n then(n,0) else(0,7)
def hq (op:Nat) (a b:Int):Int×Int:=
 if op=0∨fits a=false∨fits b=false then(0,4)
 else if op=1 then bounded (a+b) else if op=2 then bounded (a -b) else if op=3 then bounded (a*b)
 else if op=4 then(if a=b then 1 else 0,0) else(if a<b then 1 else 0,0)
def sQ:ByteArray:=⟨#[63]⟩
def oper (f:cT) (e:Ex) (v:Env):M Nat:=
 match e.ys with
 |[x,y]=>
  if e.s=sQ then(pick 2).bind fun k=>(later (if k=0 then x else y) v).bind fun i=>f.force i
  else(gQ f x v).bind fun a=>(gQ f y v).bind fun b=>
   let r:=hq (e7 e.s) a b
   if r.2=7 then stop 4 else if r.2≠0 then stop 3
   else if e7 e.s=4∨e7 e.s=5 then new (jK (r.1==1)) else new (.num r.1)
 |_=>stop 3
def other (f:cT) (e:Ex) (v:Env):M Nat:=
 if e.k=3 then new (.num e.n)
 else if e.k=5∧e.ys.length=2 then oper f e v
 else if e.k=6 then
  match e.ys with
  |[x,y,z]=>(later x v).bind fun i=>(f.force i).bind fun c=>(branch c).bind fun k=>f.eval (if k=1 then y else z) v
  |_=>stop 3
 else if e.k=7 then
  match e.ys with
  |[x,y]=>(later x v).bind fun i=>f.eval y (v.up e.s i)
  |_=>stop 3
 else if e.k=8 then
  match e.ys with
  |[x]=>(new .unknown).bind fun i=>f.eval x (v.up e.s i)
  |_=>stop 3
 else stop 3
def iO (f:cT) (e:Ex) (v:Env):M Nat:=tick.bind fun _=>
 if(bV e).k=2 then(fz v (cA e)).bind fun l=>new (.cw (bV e).s l)
 else if(bV e).k=1 then(fz v (cA e)).bind fun l=>name f (bV e).s v l
 else match cA e with
  |[]=>other f e v
  |x::r=>(later (bV e) v).bind fun i=>(f.force i).bind fun c=>(fz v (x::r)).bind fun l=>apply f c l
def dB (f:cT):List Ex→List Nat→Env→M Env
 |p::ps,c::cs,v=>(f.fU p c v).bind fun v=>dB f ps cs v
 |_,_,v=>M.ret v
def guards (f:cT) (v:Env):List Ex→M Unit
 |[]=>M.ret ()
 |g::r=>(later g v).bind fun i=>(f.force i).bind fun c=>(cell c).bind fun
  | .unknown=>(put c (jK true)).bind fun _=>guards f v r
  | .cw s _=>if s=iN then guards f v r else stop 2
  |_=>stop 2
def hJ (f:cT) (r:Rl) (args:List Nat):M Nat:=
 (dB f r.ps args Env.nil).bind fun v=>(guards f v r.gs).bind fun _=>(later r.b v).bind fun i=>f.force i
def ha (f:cT) (rules:List Rl) (args:List Nat):M Nat:=
 match rules with
 |[]=>stop 3
 |[r]=>hJ f r args
 |r::s::l=>(pick (r::s::l).length).bind fun k=>hJ f ((r::s::l).getD k r) args
def hb (rs:cU) (f:cT) (s:ByteArray) (args:List Nat):M Nat:=
 match rs s with
 |[]=>stop 3
 |r::l=>if args.length<r.ps.length then new (.fn s args)
  else(ha f (r::l) (args.take r.ps.length)).bind fun c=>apply f c (args.drop r.ps.length)
def h9 (f:cT) (p:Ex) (c:Nat) (v:Env):M Env:=
 if p.k=1 then M.ret (v.up p.s c)
 else if p.k=9 then M.ret v
 else(f.force c).bind fun c=>
  if p.k=3 then(cell c).bind fun
   | .unknown=>stop 3
   | .num n=>if n=p.n then M.ret v else stop 2
   |_=>stop 2
  else(cell c).bind fun
   | .unknown=>(news (cA p).length).bind fun l=>(put c (.cw (bV p).s l)).bind fun _=>dB f (cA p) l v
   | .cw s l=>if s=(bV p).s∧l.length=(cA p).length then dB f (cA p) l v else stop 2
   |_=>stop 2
def gg (f:cT):List Nat→List Nat→M (List Nat)
 |[],seen=>M.ret seen
 |x::r,seen=>(f.whole x seen).bind fun seen=>gg f r seen
def eB (f:cT) (c:Nat) (seen:List Nat):M (List Nat):=(cell c).bind fun
 | .cw _ l=>if c∈seen then M.ret seen else gg f l (c::seen)
 |_=>M.ret seen
def kf (f:cT) (c:Nat) (seen:List Nat):M (List Nat):=(f.force c).bind fun c=>eB f c seen
def reads (f:cT):List Nat→List Nat→Nat→M (List Ty×List Nat×Nat)
 |[],l,room=>M.ret ([],l,room)
 |x::r,l,room=>(f.read x l room).bind fun a=>(reads f r a.2.1 a.2.2).bind fun b=>M.ret (a.1::b.1,b.2)
def fm (f:cT) (c:Nat) (l:List Nat) (room:Nat):M (Ty×List Nat×Nat):=(cell c).bind fun
 | .num n=>M.ret (.mk 2 ⟨#[]⟩ n [],l,room)
 | .fn s a=>M.ret (.mk 4 s a.length [],l,room)
 | .cw s a=>(reads f a l room).bind fun b=>M.ret (.mk 1 s 0 b.1,b.2)
 |_=>match l.idxOf? c with
  |some i=>M.ret (.mk 3 ⟨#[]⟩ i [],l,room)
  |none=>M.ret (.mk 3 ⟨#[]⟩ l.length [],l++ [c],room)
def iP (f:cT) (c:Nat) (l:List Nat) (room:Nat):M (Ty×List Nat×Nat):=
 match room with
 |0=>M.ret (.mk 1 sQ 0 [],l,0)
 |room+1=>(f.force c).bind fun c=>fm f c l room
def next (rs:cU) (f:cT):cT where
 force:=jo f
 eval:=iO f
 func:=hb rs f
 fU:=h9 f
 whole:=kf f
 read:=iP f
def H0:cT:=⟨fun _ _=>none,fun _ _ _=>none,fun _ _ _=>none,fun _ _ _ _=>none,fun _ _ _=>none,fun _ _ _ _=>none⟩
def aB (rs:cU):Nat→cT
 |0=>H0
 |g+1=>next rs (aB rs g)
def aG {α:Type} (m:Nat→M α) (st:PS) (r:ei α):Prop:=∃G,∀g,G≤g→m g st=some r
theorem aG.ret{α:Type}{a:α}{st:PS}:aG (fun _=>M.ret a) st (.ok (a,st)):=⟨0,fun _ _=>rfl⟩
abbrev fD:=@aG.ret
theorem aG.bind{α β:Type}{m:Nat→M α}{k:Nat→α→M β}{st a1:PS}{a:α}{r:ei β}(h:aG m st (.ok (a,a1)))(b:aG (fun g=>k g a) a1 r):aG (fun g=>(m g).bind (k g)) st r:=by
 obtain⟨G,h⟩:=h
 obtain⟨H,b⟩:=b
 refine⟨max G H,fun g e=> ?_⟩
 have c:=h g (by omega)
 have d:=b g (by omega)
 simp only[M.bind,c]
 exact d
abbrev bB:=@aG.bind
theorem aG.err{α β:Type}{m:Nat→M α}{k:Nat→α→M β}{st:PS}{t:tS}(h:aG m st (.error t)):aG (fun g=>(m g).bind (k g)) st (.error t):=by
 obtain⟨G,h⟩:=h
 exact⟨G,fun g a=>by simp only[M.bind,h g a]⟩
abbrev ej:=@aG.err
theorem aG.of{α:Type}{m:M α}{st:PS}{r:ei α}(h:m st=some r):aG (fun _=>m) st r:=⟨0,fun _ _=>h⟩
abbrev b8:=@aG.of
variable{ap:PS}
theorem aG.step{m:Nat→M cW}{r:ei cW}(h:aG (fun g=>m (g+1)) ap r):aG m ap r:=by
 obtain⟨G,h⟩:=h
 refine⟨G+1,fun g b=> ?_⟩
 obtain⟨a,rfl⟩:∃a,g=a+1:=⟨g -1,by omega⟩
 exact h a (by omega)
theorem aG.one{m:Nat→M cW}{r s:ei cW}(h:aG m ap r)(k:aG m ap s):r=s:=by
 obtain⟨G,h⟩:=h
 obtain⟨H,k⟩:=k
 have b:=h (max G H) (by omega)
 have a:=k (max G H) (by omega)
 rw[b] at a
 exact Option.some.inj a
def up (k:Nat) (st:PS):PS:={st with ay:=st.ay+k}
def rA {α:Type} (k:Nat):ei α→ei α
 | .ok (a,st)=> .ok (a,up k st)
 | .error t=> .error t
def pT {α:Type} (r:ei α):Prop:=∃n,r= .error (5,n)
def aU {α:Type} (m:M α):Prop:=∀k st r,m st=some r→¬pT r→m (up k st)=some (rA k r)
theorem aU.ret{α:Type}(a:α):aU (M.ret a):=fun k st r h _=>by cases h;rfl
theorem aU.stop{α:Type}(w:Nat):aU (stop w:M α):=fun k st r h _=>by cases h;rfl
theorem aU.bind{α β:Type}{m:M α}{q:α→M β}(c:aU m)(f:∀a,aU (q a)):aU (m.bind q):=by
 intro k st r h d
 unfold M.bind at h⊢
 cases e:m st with
 |none=>rw[e] at h;cases h
 |some x=>
  rw[e] at h
  rcases x with t|⟨a,a1⟩
  ·cases h
   rw[c k st _ e (fun⟨n,b⟩=>d ⟨n,by cases b;rfl⟩)]
   rfl
  ·rw[c k st _ e (fun⟨n,b⟩=>by cases b)]
   exact f a k a1 r h d
theorem aU.tick:aU tick:=by
 intro k st r h a
 unfold Mo.tick at h⊢
 by_cases e:st.ay=0
 ·rw[if_pos e] at h
  cases h
  exact absurd ⟨0,rfl⟩ a
 ·rw[if_neg e] at h
  cases h
  have:(up k st).ay≠0:=by show st.ay+k≠0;omega
  rw[if_neg this]
  unfold rA up
  congr 4
  show st.ay+k -1=st.ay -1+k
  omega
theorem aU.pick(n:Nat):aU (pick n):=by
 intro k st r h b
 unfold Mo.pick at h⊢
 obtain⟨cs,f,ps⟩:=st
 cases ps with
 |nil=>cases h;rfl
 |cons p q=>
  simp only[up] at h⊢
  split at h
  ·rename_i a;cases h;rw[if_pos a];rfl
  ·rename_i a;cases h;rw[if_neg a];rfl
theorem aU.cell(i:Nat):aU (cell i):=fun k st r h _=>by cases h;rfl
theorem aU.put(i:Nat)(c:PC):aU (put i c):=fun k st r h _=>by cases h;rfl
theorem aU.new(c:PC):aU (new c):=fun k st r h _=>by cases h;rfl
theorem aU.news:∀n,aU (news n)
 |0=>aU.ret _
 |n+1=>(aU.new _).bind fun i=>(aU.news n).bind fun l=>aU.ret _
theorem aU.later(e:Ex)(v:Env):aU (later e v):=by
 unfold Mo.later
 split
 ·exact aU.ret _
 ·exact aU.new _
theorem aU.fz(v:Env):∀l,aU (fz v l)
 |[]=>aU.ret _
 |e::r=>(aU.later e v).bind fun i=>(aU.fz v r).bind fun l=>aU.ret _
structure gz (f:cT):Prop where
 force:∀c,aU (f.force c)
 eval:∀e v,aU (f.eval e v)
 func:∀s l,aU (f.func s l)
 fU:∀p c v,aU (f.fU p c v)
 whole:∀c s,aU (f.whole c s)
 read:∀c l r,aU (f.read c l r)
theorem aU.apply{f:cT}(a:gz f)(c:Nat)(args:List Nat):aU (apply f c args):=by
 unfold Mo.apply
 split
 ·exact aU.ret _
 ·refine(aU.cell c).bind fun x=> ?_
  split
  ·exact a.func _ _
  ·exact aU.stop _
theorem aU.name{f:cT}(a:gz f)(s:BA)(v:Env)(args:List Nat):aU (name f s v args):=by
 unfold Mo.name
 split
 ·exact(a.force _).bind fun c=>aU.apply a c args
 ·exact a.func _ _
variable{cI:cT}
theorem aU.jo(a:gz cI)(c:Nat):aU (jo cI c):=by
 refine(aU.cell c).bind fun x=> ?_
 split
 ·exact aU.ret _
 ·exact(a.eval _ _).bind fun x=>(aU.put _ _).bind fun _=>aU.ret _
 ·exact aU.ret _
theorem aU.branch(c:Nat):aU (branch c):=by
 refine(aU.cell c).bind fun x=> ?_
 split
 ·exact(aU.pick 2).bind fun k=>(aU.put _ _).bind fun _=>aU.ret _
 ·split
  ·exact aU.ret _
  ·split
   ·exact aU.ret _
   ·exact aU.stop _
 ·exact aU.stop _
theorem aU.gQ(a:gz cI)(e:Ex)(v:Env):aU (gQ cI e v):=by
 refine(aU.later e v).bind fun i=>(a.force i).bind fun c=>(aU.cell c).bind fun x=> ?_
 split
 ·exact aU.ret _
 ·exact aU.stop _
theorem aU.oper{f:cT}(c:gz f)(e:Ex)(v:Env):aU (oper f e v):=by
 unfold Mo.oper
 split
 ·split
  ·exact(aU.pick 2).bind fun k=>(aU.later _ _).bind fun i=>c.force i
  ·refine(aU.gQ c _ _).bind fun a=>(aU.gQ c _ _).bind fun b=> ?_
   dsimp only
   split
   ·exact aU.stop _
   ·split
    ·exact aU.stop _
    ·split
     ·exact aU.new _
     ·exact aU.new _
 ·exact aU.stop _
theorem aU.other{f:cT}(a:gz f)(e:Ex)(v:Env):aU (other f e v):=by
 unfold Mo.other
 split
 ·exact aU.new _
 ·split
  ·exact aU.oper a e v
  ·split
   ·split
    ·exact(aU.later _ _).bind fun i=>(a.force i).bind fun c=>(aU.branch c).bind fun k=>a.eval _ _
    ·exact aU.stop _
   ·split
    ·split
     ·exact(aU.later _ _).bind fun i=>a.eval _ _
     ·exact aU.stop _
    ·split
     ·split
      ·exact(aU.new _).bind fun i=>a.eval _ _
      ·exact aU.stop _
     ·exact aU.stop _
theorem aU.iO(a:gz cI)(e:Ex)(v:Env):aU (iO cI e v):=by
 refine aU.tick.bind fun _=> ?_
 split
 ·exact(aU.fz _ _).bind fun l=>aU.new _
 ·split
  ·exact(aU.fz _ _).bind fun l=>aU.name a _ _ _
  ·split
   ·exact aU.other a e v
   ·exact(aU.later _ _).bind fun i=>(a.force i).bind fun c=>(aU.fz _ _).bind fun l=>aU.apply a c l
theorem aU.dB{f:cT}(a:gz f):∀(ps:List Ex) (cs:List Nat) (v:Env),aU (dB f ps cs v)
 |[],_,v=>by unfold Mo.dB;exact aU.ret _
 |_::_,[],v=>by unfold Mo.dB;exact aU.ret _
 |p::ps,c::cs,v=>by unfold Mo.dB;exact(a.fU p c v).bind fun v=>aU.dB a ps cs v
theorem aU.guards{f:cT}(a:gz f)(v:Env):∀l,aU (guards f v l)
 |[]=>aU.ret _
 |g::r=>by
  unfold Mo.guards
  refine(aU.later g v).bind fun i=>(a.force i).bind fun c=>(aU.cell c).bind fun x=> ?_
  split
  ·exact(aU.put _ _).bind fun _=>aU.guards a v r
  ·split
   ·exact aU.guards a v r
   ·exact aU.stop _
  ·exact aU.stop _
theorem aU.hJ(a:gz cI)(r:Rl)(args:List Nat):aU (hJ cI r args):=(aU.dB a _ _ _).bind fun v=>(aU.guards a v _).bind fun _=>(aU.later _ _).bind fun i=>a.force i
theorem aU.ha{f:cT}(a:gz f)(rules:List Rl)(args:List Nat):aU (ha f rules args):=by
 unfold Mo.ha
 split
 ·exact aU.stop _
 ·exact aU.hJ a _ _
 ·exact(aU.pick _).bind fun k=>aU.hJ a _ _
theorem aU.hb{f:cT}(a:gz f)(rs:cU)(s:BA)(args:List Nat):aU (hb rs f s args):=by
 unfold Mo.hb
 split
 ·exact aU.stop _
 ·split
  ·exact aU.new _
  ·exact(aU.ha a _ _).bind fun c=>aU.apply a c _
theorem aU.h9{f:cT}(a:gz f)(p:Ex)(c:Nat)(v:Env):aU (h9 f p c v):=by
 unfold Mo.h9
 split
 ·exact aU.ret _
 ·split
  ·exact aU.ret _
  ·refine(a.force c).bind fun c=> ?_
   split
   ·refine(aU.cell c).bind fun x=> ?_
    split
    ·exact aU.stop _
    ·split
     ·exact aU.ret _
     ·exact aU.stop _
    ·exact aU.stop _
   ·refine(aU.cell c).bind fun x=> ?_
    split
    ·exact(aU.news _).bind fun l=>(aU.put _ _).bind fun _=>aU.dB a _ _ _
    ·split
     ·exact aU.dB a _ _ _
     ·exact aU.stop _
    ·exact aU.stop _
theorem aU.gg{f:cT}(a:gz f):∀l s,aU (gg f l s)
 |[],s=>aU.ret _
 |x::r,s=>(a.whole x s).bind fun s=>aU.gg a r s
theorem aU.eB(a:gz cI)(c:Nat)(s:List Nat):aU (eB cI c s):=by
 refine(aU.cell c).bind fun x=> ?_
 split
 ·split
  ·exact aU.ret _
  ·exact aU.gg a _ _
 ·exact aU.ret _
theorem aU.kf(a:gz cI)(c:Nat)(s:List Nat):aU (kf cI c s):=(a.force c).bind fun c=>aU.eB a c s
theorem aU.reads{f:cT}(c:gz f):∀l s r,aU (reads f l s r)
 |[],s,r=>aU.ret _
 |x::q,s,r=>(c.read x s r).bind fun a=>(aU.reads c q _ _).bind fun b=>aU.ret _
theorem aU.fm(a:gz cI)(c:Nat)(s:List Nat)(r:Nat):aU (fm cI c s r):=by
 refine(aU.cell c).bind fun x=> ?_
 split
 ·exact aU.ret _
 ·exact aU.ret _
 ·exact(aU.reads a _ _ _).bind fun b=>aU.ret _
 ·split
  ·exact aU.ret _
  ·exact aU.ret _
theorem aU.iP{f:cT}(a:gz f)(c:Nat)(s:List Nat)(r:Nat):aU (iP f c s r):=by
 unfold Mo.iP
 split
 ·exact aU.ret _
 ·exact(a.force c).bind fun c=>aU.fm a c s _
theorem gz.next(a:gz cI)(rs:cU):gz (next rs cI):=
 ⟨aU.jo a,aU.iO a,aU.hb a rs,aU.h9 a,aU.kf a,aU.iP a⟩
theorem gz.aB(rs:cU):∀g,gz (aB rs g)
 |0=>⟨fun _ k st r h=>(by cases h),fun _ _ k st r h=>(by cases h),fun _ _ k st r h=>(by cases h),fun _ _ _ k st r h=>(by cases h),fun _ _ k st r h=>(by cases h),fun _ _ _ k st r h=>(by cases h)⟩
 |g+1=>(gz.aB rs g).next rs
def fg:PC→Prop
 | .dF _ _=>False
 | .link _=>False
 |_=>True
def PS.at (st:PS) (i:Nat):PC:=st.cells.getD i .unknown
def PS.len (st:PS):Nat:=st.cells.length
def In (d:Nat) (st:PS) (i:Nat):Prop:=d≤i∧i<st.len
def ed (d:Nat) (st:PS) (v:Env):Prop:=∀s i,v s=some i→In d st i
def jp (rs:cU) (d:Nat) (st:PS):PC→Prop
 | .dF e v=>ed d st v
 | .link j=>In d st j∧fg (st.at j)
 | .cw s l=>∀i∈l,In d st i
 | .fn s l=>(∀i∈l,In d st i)∧∃r q,rs s=r::q∧l.length<r.ps.length
 |_=>True
structure WF (rs:cU) (d:Nat) (st:PS):Prop where
 le:d≤st.len
 ok:∀i,In d st i→jp rs d st (st.at i)
def iQ:PC→PC→Prop
 | .dF e v,c=>c= .dF e v∨∃j,c= .link j
 | .unknown,c=>c= .unknown∨∃s l,c= .cw s l
 |c,c'=>c'=c
structure Le (st a1:PS):Prop where
 len:st.len≤a1.len
 ay:a1.ay≤st.ay
 cell:∀i,i<st.len→iQ (st.at i) (a1.at i)
theorem iQ.refl(c:PC):iQ c c:=by cases c<;>simp[iQ]
theorem iQ.trans{a b c:PC}(h:iQ a b)(k:iQ b c):iQ a c:=by
 cases a with
 |dF e v=>
  rcases h with rfl|⟨j,rfl⟩
  ·exact k
  ·exact .inr ⟨j,k⟩
 |unknown=>
  rcases h with rfl|⟨s,l,rfl⟩
  ·exact k
  ·exact .inr ⟨s,l,k⟩
 |_=>cases h;exact k
variable{l1 H2:PC}
theorem iQ.fg(h:iQ l1 H2)(k:fg l1):fg H2:=by
 cases l1 with
 |dF e v=>cases k
 |link j=>cases k
 |unknown=>
  rcases h with rfl|⟨s,l,rfl⟩<;>trivial
 |_=>cases h;trivial
theorem Le.refl(st:PS):Le st st:=⟨a9 _,a9 _,fun i _=>iQ.refl _⟩
theorem Le.trans{a b c:PS}(h:Le a b)(k:Le b c):Le a c:=⟨dS h.len k.len,dS k.ay h.ay,fun i d=>(h.cell i d).trans (k.cell i (lA d h.len))⟩
variable{aW:PS}
theorem In.le{d:Nat}{i:Nat}(h:In d ap i)(k:Le ap aW):In d aW i:=⟨h.1,lA h.2 k.len⟩
theorem ed.le{d:Nat}{st a1:PS}{v:Env}(h:ed d st v)(k:Le st a1):ed d a1 v:=fun s i a=>(h s i a).le k
theorem ed.up{d:Nat}{st:PS}{v:Env}(h:ed d st v){s:BA}{i:Nat}(b:In d st i):ed d st (v.up s i):=by
 intro t j a
 unfold Env.up at a
 split at a
 ·cases a;exact b
 ·exact h t j a
theorem ed.nil{d:Nat}{st:PS}:ed d st Env.nil:=fun s i h=>by cases h
theorem jp.le{rs:cU}{d:Nat}{st a1:PS}(k:Le st a1):∀{c:PC},jp rs d st c→jp rs d a1 c
 | .dF e v,h=>ed.le h k
 | .link j,h=>⟨h.1.le k,(k.cell j h.1.2).fg h.2⟩
 | .unknown,_=>trivial
 | .num _,_=>trivial
 | .cw s l,h=>fun i a=>(h i a).le k
 | .fn s l,h=>⟨fun i a=>(h.1 i a).le k,h.2⟩
def dW {α:Type} (m:M α) (st:PS) (a:α) (a1:PS) (C:Prop):Prop:=m st=some (.ok (a,a1))→C
theorem cp{m:M cW}{q:cW→M wC}{b:wC}(h:(m.bind q) ap=some (.ok (b,aW))):∃a b6,m ap=some (.ok (a,b6))∧q a b6=some (.ok (b,aW)):=by
 unfold M.bind at h
 cases e:m ap with
 |none=>rw[e] at h;cases h
 |some x=>
  rw[e] at h
  rcases x with t|⟨a,b6⟩
  ·cases h
  ·exact⟨a,b6,rfl,h⟩
theorem dG{a b:cW}(h:(M.ret a) ap=some (.ok (b,aW))):b=a∧aW=ap:=by cases h;exact⟨rfl,rfl⟩
theorem hr{b:cW}(h:(stop ae:M cW) ap=some (.ok (b,aW))):False:=by cases h
theorem jL{i:Nat}{c:PC}(h:(cell i) ap=some (.ok (c,aW))):c=ap.at i∧aW=ap:=by cases h;exact⟨rfl,rfl⟩
structure Good (rs:cU) (d:Nat) (st a1:PS):Prop where
 wf:WF rs d a1
 le:Le st a1
theorem Good.trans{rs:cU}{d:Nat}{a b c:PS}(h:Good rs d a b)(k:Good rs d b c):Good rs d a c:=⟨k.wf,h.le.trans k.le⟩
theorem Good.refl{rs:cU}{d:Nat}{a:PS}(h:WF rs d a):Good rs d a a:=⟨h,Le.refl a⟩
variable{aD:cU}
theorem A9{d:Nat}(w:WF aD d ap)(h:tick ap=some (.ok (Ba,aW))):Good aD d ap aW∧aW.ay<ap.ay:=by
 unfold tick at h
 split at h
 ·cases h
 ·rename_i a
  cases h
  exact⟨⟨⟨w.le,w.ok⟩,⟨a9 _,Nat.sub_le _ _,fun i _=>iQ.refl _⟩⟩,by show ap.ay -1<ap.ay;omega⟩
theorem pU{d:Nat}{n k:Nat}(w:WF aD d ap)(h:pick n ap=some (.ok (k,aW))):Good aD d ap aW∧k<n:=by
 unfold pick at h
 split at h
 ·cases h
 ·split at h
  ·cases h
  ·rename_i a
   cases h
   exact⟨⟨⟨w.le,w.ok⟩,⟨a9 _,a9 _,fun i _=>iQ.refl _⟩⟩,by omega⟩
theorem rB{c:PC}(i:Nat)(a:i<ap.len):({ap with cells:=ap.cells++ [c]}:PS).at i=ap.at i:=by
 unfold PS.at
 simp only[List.getD_eq_getElem?_getD]
 rw[List.getElem?_append_left a]
theorem wE{c:PC}:({ap with cells:=ap.cells++ [c]}:PS).at ap.len=c:=by
 unfold PS.at PS.len
 simp only[List.getD_eq_getElem?_getD]
 rw[List.getElem?_append_right (Nat.le_refl _),Nat.sub_self]
 rfl
theorem kg{d:Nat}{c:PC}{i:Nat}(w:WF aD d ap)(g:jp aD d ap c)(h:new c ap=some (.ok (i,aW))):Good aD d ap aW∧In d aW i∧i=ap.len∧aW.at i=c∧(∀j,j<ap.len→aW.at j=ap.at j)∧aW.len=ap.len+1:=by
 cases h
 have b:Le ap {ap with cells:=ap.cells++ [c]}:=⟨by simp[PS.len],Nat.le_refl _,fun j a=>by rw[rB j a];exact iQ.refl _⟩
 have f:({ap with cells:=ap.cells++ [c]}:PS).len=ap.len+1:=by simp[PS.len]
 refine⟨⟨⟨Nat.le_trans w.le b.len,fun j a=> ?_⟩,b⟩,⟨w.le,by rw[f];exact Nat.lt_succ_self _⟩,rfl,wE,fun j a=>rB j a,f⟩
 by_cases e:j<ap.len
 ·rw[rB j e]
  exact jp.le b (w.ok j ⟨a.1,e⟩)
 ·have:j=ap.len:=by have:=a.2;rw[f] at this;omega
  subst this
  rw[wE]
  exact jp.le b g
theorem nq{c:PC}{i j:Nat}:({ap with cells:=ap.cells.set i c}:PS).at j=if i=j∧j<ap.len then c else ap.at j:=by
 unfold PS.at PS.len
 simp only[List.getD_eq_getElem?_getD,List.getElem?_set]
 by_cases e:i=j
 ·subst e
  by_cases a:i<ap.cells.length
  ·simp[a]
  ·simp[a]
 ·simp[e]
theorem jq{c:PC}{i:Nat}:({ap with cells:=ap.cells.set i c}:PS).len=ap.len:=by simp[PS.len]
variable{iz:PS}
theorem pV{d:Nat}{c:PC}{i:Nat}(w:WF aD d aW)(m:Le ap aW)(r:In d aW i)(p:jp aD d aW c)(o:i<ap.len→iQ (ap.at i) c)(t:fg (aW.at i)→fg c)(h:put i c aW=some (.ok (Ba,iz))):
 WF aD d iz∧Le ap iz∧iz.at i=c∧(∀j,j≠i→iz.at j=aW.at j)∧iz.len=aW.len:=by
 cases h
 have f:∀j,In d {aW with cells:=aW.cells.set i c} j↔In d aW j:=fun j=>by unfold In;rw[jq]
 have g:({aW with cells:=aW.cells.set i c}:PS).at i=c:=by rw[nq,if_pos ⟨rfl,r.2⟩]
 have k:∀j,j≠i→({aW with cells:=aW.cells.set i c}:PS).at j=aW.at j:=fun j a=>by rw[nq,if_neg (fun e=>a e.1.symm)]
 have n:∀q,jp aD d aW q→jp aD d {aW with cells:=aW.cells.set i c} q:=by
  intro q b
  cases q with
  |dF e v=>exact fun s j a=>(f j).2 (b s j a)
  |link j=>
   refine⟨(f j).2 b.1,?_⟩
   by_cases e:j=i
   ·subst e;rw[g];exact t b.2
   ·rw[k j e];exact b.2
  |cw s l=>exact fun j a=>(f j).2 (b j a)
  |fn s l=>exact⟨fun j a=>(f j).2 (b.1 j a),b.2⟩
  |_=>trivial
 refine⟨⟨by rw[jq];exact w.le,fun j a=> ?_⟩,⟨by rw[jq];exact m.len,m.ay,fun j a=> ?_⟩,g,k,jq⟩
 ·by_cases e:j=i
  ·subst e;rw[g];exact n _ p
  ·rw[k j e];exact n _ (w.ok j ((f j).1 a))
 ·by_cases e:j=i
  ·subst e;rw[g];exact o a
  ·rw[k j e];exact m.cell j a
theorem Bb{rs:cU}{d:Nat}:∀{n:Nat} {st a1:PS} {l:List Nat},WF rs d st→news n st=some (.ok (l,a1))→Good rs d st a1∧l.length=n∧(∀i∈l,In d a1 i)∧∀j,j<st.len→a1.at j=st.at j
 |0,st,a1,l,w,h=>by
  obtain⟨rfl,rfl⟩:=dG h
  exact⟨Good.refl w,rfl,fun i k=>(by cases k),fun _ _=>rfl⟩
 |n+1,st,a1,l,w,h=>by
  replace h:=cp h
  obtain⟨i,b6,f,h⟩:=h
  replace h:=cp h
  obtain⟨t,dD,g,h⟩:=h
  obtain⟨rfl,rfl⟩:=dG h
  obtain⟨g1,g2,q,r,e,s⟩:=kg (c:= .unknown) w trivial f
  obtain⟨b,m,o,p⟩:=Bb g1.wf g
  refine⟨g1.trans b,by simp[m],fun j a=> ?_,fun j a=>(p j (by omega)).trans (e j a)⟩
  rcases dX.1 a with rfl|a
  ·exact g2.le b.le
  ·exact o j a
variable{b3:Env}
theorem hV{d:Nat}{e:Ex}{i:Nat}(w:WF aD d ap)(b:ed d ap b3)(h:later e b3 ap=some (.ok (i,aW))):Good aD d ap aW∧In d aW i:=by
 unfold later at h
 revert h
 show dW _ _ _ _ _
 split<;>intro h
 ·rename_i j a
  obtain⟨rfl,rfl⟩:=dG h
  split at a
  ·exact⟨Good.refl w,b _ _ a⟩
  ·cases a
 ·obtain⟨g1,g2,_⟩:=kg (c:= .dF e b3) w b h
  exact⟨g1,g2⟩
theorem l2{rs:cU}{d:Nat}{v:Env}:∀{es:List Ex} {st a1:PS} {l:List Nat},WF rs d st→ed d st v→fz v es st=some (.ok (l,a1))→Good rs d st a1∧(∀i∈l,In d a1 i)∧l.length=es.length
 |[],st,a1,l,w,b,h=>by
  obtain⟨rfl,rfl⟩:=dG h
  exact⟨Good.refl w,fun i k=>(by cases k),rfl⟩
 |e::r,st,a1,l,w,b,h=>by
  replace h:=cp h
  obtain⟨i,b6,f,h⟩:=h
  replace h:=cp h
  obtain⟨o,dD,g,h⟩:=h
  obtain⟨rfl,rfl⟩:=dG h
  obtain⟨g1,g2⟩:=hV w b f
  obtain⟨c,m,n⟩:=l2 g1.wf (b.le g1.le) g
  refine⟨g1.trans c,fun j a=> ?_,by simp[n]⟩
  rcases dX.1 a with rfl|a
  ·exact g2.le c.le
  ·exact m j a
def di (d:Nat) (st:PS) (l:List Nat):Prop:=∀i∈l,In d st i
theorem di.le{d:Nat}{st a1:PS}{l:List Nat}(h:di d st l)(k:Le st a1):di d a1 l:=fun i a=>(h i a).le k
structure eT (rs:cU) (d:Nat) (f:cT):Prop where
 force:∀{c st a a1},WF rs d st→In d st c→f.force c st=some (.ok (a,a1))→Good rs d st a1∧In d a1 a∧fg (a1.at a)
 eval:∀{e v st a a1},WF rs d st→ed d st v→f.eval e v st=some (.ok (a,a1))→Good rs d st a1∧In d a1 a∧fg (a1.at a)
 func:∀{s l st a a1},WF rs d st→di d st l→f.func s l st=some (.ok (a,a1))→Good rs d st a1∧In d a1 a∧fg (a1.at a)
 fU:∀{p c v st v' a1},WF rs d st→In d st c→ed d st v→f.fU p c v st=some (.ok (v',a1))→Good rs d st a1∧ed d a1 v'
 whole:∀{c s st s' a1},WF rs d st→In d st c→di d st s→f.whole c s st=some (.ok (s',a1))→Good rs d st a1∧di d a1 s'
 read:∀{c l r st x a1},WF rs d st→In d st c→di d st l→f.read c l r st=some (.ok (x,a1))→Good rs d st a1∧di d a1 x.2.1
theorem tT{d:Nat}(f:eT aD d cI){c:Nat}(w:WF aD d ap)(b:In d ap c)(j:fg (ap.at c))(g:di d ap aI)(h:apply cI c aI ap=some (.ok (ae,aW))):Good aD d ap aW∧In d aW ae∧fg (aW.at ae):=by
 unfold apply at h
 revert h
 show dW _ _ _ _ _
 split<;>intro h
 ·obtain⟨rfl,rfl⟩:=dG h
  exact⟨Good.refl w,b,j⟩
 ·replace h:=cp h
  obtain⟨x,b6,e,h⟩:=h
  obtain⟨k,rfl⟩:=jL e
  revert h
  show dW _ _ _ _ _
  split<;>intro h
  ·rename_i s l
   have:=w.ok c b
   rw[←k] at this
   exact f.func w (fun i a=>by
    rcases fM.1 a with a|a
    ·exact this.1 i a
    ·exact g i a) h
  ·exact(hr h).elim
theorem Bc{d:Nat}(a:eT aD d cI)(w:WF aD d ap)(j:ed d ap b3)(b:di d ap aI)(h:name cI aY b3 aI ap=some (.ok (ae,aW))):Good aD d ap aW∧In d aW ae∧fg (aW.at ae):=by
 unfold name at h
 revert h
 show dW _ _ _ _ _
 split<;>intro h
 ·rename_i i g
  replace h:=cp h
  obtain⟨c,b6,f,h⟩:=h
  obtain⟨g1,g2,e⟩:=a.force w (j aY i g) f
  obtain⟨k,l,m⟩:=tT a g1.wf g2 e (b.le g1.le) h
  exact⟨g1.trans k,l,m⟩
 ·exact a.func w b h
theorem H3{d:Nat}(p:eT aD d cI){c:Nat}(w:WF aD d ap)(a:In d ap c)(h:jo cI c ap=some (.ok (ae,aW))):Good aD d ap aW∧In d aW ae∧fg (aW.at ae):=by
 replace h:=cp h
 obtain⟨x,b6,m,h⟩:=h
 obtain⟨f,rfl⟩:=jL m
 have b:=w.ok c a
 rw[←f] at b
 revert h
 show dW _ _ _ _ _
 split<;>intro h
 ·obtain⟨rfl,rfl⟩:=dG h
  exact⟨Good.refl w,b.1,b.2⟩
 ·rename_i e v
  replace h:=cp h
  obtain⟨y,dD,n,h⟩:=h
  replace h:=cp h
  obtain⟨u,B,h3,h⟩:=h
  obtain⟨rfl,rfl⟩:=dG h
  obtain⟨g1,g2,g⟩:=p.eval w b n
  have k:=g1.le.cell c a.2
  rw[←f] at k
  have l:¬fg (dD.at c):=by
   rcases k with i|⟨j,i⟩<;>rw[i]<;>exact id
  obtain⟨s,t,_,z,A⟩:=pV g1.wf g1.le (a.le g1.le) (show jp aD d dD (.link ae) from⟨g2,g⟩) (fun _=>by rw[←f];exact .inr ⟨ae,rfl⟩) (fun h=>absurd h l) h3
  have o:ae≠c:=fun e=>l (e▸g)
  refine⟨⟨s,t⟩,⟨g2.1,by rw[A];exact g2.2⟩,?_⟩
  rw[z ae o]
  exact g
 ·rename_i q r
  obtain⟨rfl,rfl⟩:=dG h
  refine⟨Good.refl w,a,?_⟩
  rw[←f]
  cases x with
  |dF e v=>exact absurd rfl (r e v)
  |link j=>exact absurd rfl (q j)
  |_=>trivial
theorem rC{d:Nat}:jp aD d ap (jK ca):=fun i a=>by cases a
theorem Bd{d:Nat}{c:Nat}(w:WF aD d ap)(e:In d ap c)(h:branch c ap=some (.ok (ae,aW))):Good aD d ap aW:=by
 replace h:=cp h
 obtain⟨x,b6,a,h⟩:=h
 obtain⟨f,rfl⟩:=jL a
 revert h
 show dW _ _ _ _ _
 split<;>intro h
 ·replace h:=cp h
  obtain⟨y,dD,b,h⟩:=h
  replace h:=cp h
  obtain⟨u,j,h3,h⟩:=h
  obtain⟨rfl,rfl⟩:=dG h
  obtain⟨g1,_⟩:=pU w b
  obtain⟨g,i,_⟩:=pV g1.wf g1.le (e.le g1.le) rC (fun _=>by rw[←f];exact .inr ⟨_,_,rfl⟩) (fun _=>trivial) h3
  exact⟨g,i⟩
 ·revert h
  show dW _ _ _ _ _
  split<;>intro h
  ·obtain⟨rfl,rfl⟩:=dG h
   exact Good.refl w
  ·revert h
   show dW _ _ _ _ _
   split<;>intro h
   ·obtain⟨rfl,rfl⟩:=dG h
    exact Good.refl w
   ·exact(hr h).elim
 ·exact(hr h).elim
theorem wF{d:Nat}(e:eT aD d cI){n:Int}(w:WF aD d ap)(f:ed d ap b3)(h:gQ cI aM b3 ap=some (.ok (n,aW))):Good aD d ap aW:=by
 replace h:=cp h
 obtain⟨i,b6,a,h⟩:=h
 replace h:=cp h
 obtain⟨c,dD,b,h⟩:=h
 replace h:=cp h
 obtain⟨x,m,h3,h⟩:=h
 obtain⟨j,rfl⟩:=jL h3
 obtain⟨g1,g2⟩:=hV w f a
 obtain⟨g,k,l⟩:=e.force g1.wf g2 b
 revert h
 show dW _ _ _ _ _
 split<;>intro h
 ·obtain⟨rfl,rfl⟩:=dG h
  exact g1.trans g
 ·exact(hr h).elim
theorem H4{d:Nat}(g:eT aD d cI)(w:WF aD d ap)(j:ed d ap b3)(h:oper cI aM b3 ap=some (.ok (ae,aW))):Good aD d ap aW∧In d aW ae∧fg (aW.at ae):=by
 unfold oper at h
 revert h
 show dW _ _ _ _ _
 split<;>intro h
 ·revert h
  show dW _ _ _ _ _
  split<;>intro h
  ·replace h:=cp h
   obtain⟨k,b6,e,h⟩:=h
   replace h:=cp h
   obtain⟨i,dD,f,h⟩:=h
   obtain⟨g1,_⟩:=pU w e
   obtain⟨g2,n⟩:=hV g1.wf (j.le g1.le) f
   obtain⟨a,b,l⟩:=g.force g2.wf n h
   exact⟨(g1.trans g2).trans a,b,l⟩
  ·replace h:=cp h
   obtain⟨x,b6,e,h⟩:=h
   replace h:=cp h
   obtain⟨y,dD,f,h⟩:=h
   have g1:=wF g w j e
   have g2:=wF g g1.wf (j.le g1.le) f
   revert h
   show dW _ _ _ _ _
   split<;>intro h
   ·exact(hr h).elim
   ·revert h
    show dW _ _ _ _ _
    split<;>intro h
    ·exact(hr h).elim
    ·revert h
     show dW _ _ _ _ _
     split<;>intro h
     ·obtain⟨a,b,l,m,_⟩:=kg g2.wf rC h
      exact⟨(g1.trans g2).trans a,b,by rw[m];trivial⟩
     ·obtain⟨a,b,l,m,_⟩:=kg g2.wf (c:= .num _) trivial h
      exact⟨(g1.trans g2).trans a,b,by rw[m];trivial⟩
 ·exact(hr h).elim
theorem Be{d:Nat}(e:eT aD d cI)(w:WF aD d ap)(a:ed d ap b3)(h:other cI aM b3 ap=some (.ok (ae,aW))):Good aD d ap aW∧In d aW ae∧fg (aW.at ae):=by
 unfold other at h
 revert h
 show dW _ _ _ _ _
 split<;>intro h
 ·obtain⟨m,n,r,q,_⟩:=kg w (c:= .num _) trivial h
  exact⟨m,n,by rw[q];trivial⟩
 ·revert h
  show dW _ _ _ _ _
  split<;>intro h
  ·exact H4 e w a h
  ·revert h
   show dW _ _ _ _ _
   split<;>intro h
   ·revert h
    show dW _ _ _ _ _
    split<;>intro h
    ·replace h:=cp h
     obtain⟨i,b6,b,h⟩:=h
     replace h:=cp h
     obtain⟨c,dD,p,h⟩:=h
     replace h:=cp h
     obtain⟨k,s,h3,h⟩:=h
     obtain⟨g1,g2⟩:=hV w a b
     obtain⟨m,n,_⟩:=e.force g1.wf g2 p
     have o:=Bd m.wf n h3
     have g:=(g1.trans m).trans o
     obtain⟨f,j,l⟩:=e.eval g.wf (a.le g.le) h
     exact⟨g.trans f,j,l⟩
    ·exact(hr h).elim
   ·revert h
    show dW _ _ _ _ _
    split<;>intro h
    ·revert h
     show dW _ _ _ _ _
     split<;>intro h
     ·replace h:=cp h
      obtain⟨i,b6,b,h⟩:=h
      obtain⟨g1,g2⟩:=hV w a b
      obtain⟨f,j,l⟩:=e.eval g1.wf ((a.le g1.le).up g2) h
      exact⟨g1.trans f,j,l⟩
     ·exact(hr h).elim
    ·revert h
     show dW _ _ _ _ _
     split<;>intro h
     ·revert h
      show dW _ _ _ _ _
      split<;>intro h
      ·replace h:=cp h
       obtain⟨i,b6,b,h⟩:=h
       obtain⟨g1,g2,_⟩:=kg w (c:= .unknown) trivial b
       obtain⟨f,j,l⟩:=e.eval g1.wf ((a.le g1.le).up g2) h
       exact⟨g1.trans f,j,l⟩
      ·exact(hr h).elim
     ·exact(hr h).elim
theorem H5{d:Nat}(k:eT aD d cI)(w:WF aD d ap)(p:ed d ap b3)(h:iO cI aM b3 ap=some (.ok (ae,aW))):Good aD d ap aW∧In d aW ae∧fg (aW.at ae):=by
 replace h:=cp h
 obtain⟨u,x,n,h⟩:=h
 obtain⟨a,_⟩:=A9 w n
 have f:=p.le a.le
 revert h
 show dW _ _ _ _ _
 split<;>intro h
 ·replace h:=cp h
  obtain⟨l,b6,g,h⟩:=h
  obtain⟨g1,g2,_⟩:=l2 a.wf f g
  obtain⟨b,e,_,r,_⟩:=kg g1.wf (c:= .cw _ l) g2 h
  exact⟨(a.trans g1).trans b,e,by rw[r];trivial⟩
 ·revert h
  show dW _ _ _ _ _
  split<;>intro h
  ·replace h:=cp h
   obtain⟨l,b6,g,h⟩:=h
   obtain⟨g1,g2,_⟩:=l2 a.wf f g
   obtain⟨b,e,j⟩:=Bc k g1.wf (f.le g1.le) g2 h
   exact⟨(a.trans g1).trans b,e,j⟩
  ·revert h
   show dW _ _ _ _ _
   split<;>intro h
   ·obtain⟨b,e,j⟩:=Be k a.wf f h
    exact⟨a.trans b,e,j⟩
   ·replace h:=cp h
    obtain⟨i,b6,g,h⟩:=h
    replace h:=cp h
    obtain⟨c,dD,o,h⟩:=h
    replace h:=cp h
    obtain⟨l,y,h3,h⟩:=h
    obtain⟨g1,g2⟩:=hV a.wf f g
    obtain⟨b,e,j⟩:=k.force g1.wf g2 o
    have q:=(f.le g1.le).le b.le
    obtain⟨m,s,_⟩:=l2 b.wf q h3
    obtain⟨n1,t,v⟩:=tT k m.wf (e.le m.le) ((m.le.cell c e.2).fg j) s h
    exact⟨((a.trans g1).trans (b.trans m)).trans n1,t,v⟩
theorem tU{rs:cU}{d:Nat}{f:cT}(g:eT rs d f):∀{ps:List Ex} {cs:List Nat} {v b:Env} {st a1:PS},WF rs d st→di d st cs→ed d st v→dB f ps cs v st=some (.ok (b,a1))→Good rs d st a1∧ed d a1 b
 |[],cs,v,b,st,a1,w,e,a,h=>by
  unfold dB at h
  obtain⟨rfl,rfl⟩:=dG h
  exact⟨Good.refl w,a⟩
 |_::_,[],v,b,st,a1,w,e,a,h=>by
  unfold dB at h
  obtain⟨rfl,rfl⟩:=dG h
  exact⟨Good.refl w,a⟩
 |p::ps,c::cs,v,b,st,a1,w,e,a,h=>by
  unfold dB at h
  replace h:=cp h
  obtain⟨n,b6,j,h⟩:=h
  obtain⟨g1,g2⟩:=g.fU w (e c (hD ..)) a j
  obtain⟨l,m⟩:=tU g g1.wf (fun i k=>(e i (iT _ k)).le g1.le) g2 h
  exact⟨g1.trans l,m⟩
theorem wG{rs:cU}{d:Nat}{f:cT}(b:eT rs d f){v:Env}:∀{gs:List Ex} {st a1:PS} {u:Unit},WF rs d st→ed d st v→guards f v gs st=some (.ok (u,a1))→Good rs d st a1
 |[],st,a1,u,w,a,h=>by
  obtain⟨_,rfl⟩:=dG h
  exact Good.refl w
 |g::r,st,a1,u,w,a,h=>by
  unfold guards at h
  replace h:=cp h
  obtain⟨i,b6,m,h⟩:=h
  replace h:=cp h
  obtain⟨c,dD,n,h⟩:=h
  replace h:=cp h
  obtain⟨x,y,h3,h⟩:=h
  obtain⟨q,rfl⟩:=jL h3
  obtain⟨g1,g2⟩:=hV w a m
  obtain⟨s,t,_⟩:=b.force g1.wf g2 n
  have g:=g1.trans s
  revert h
  show dW _ _ _ _ _
  split<;>intro h
  ·replace h:=cp h
   obtain⟨A,z,o,h⟩:=h
   obtain⟨k,l,_⟩:=pV g.wf g.le t rC (fun p=>by
    have:=g.le.cell c p
    rw[←q] at this
    cases e:st.at c with
    |unknown=>exact .inr ⟨_,_,rfl⟩
    |dF _ _=>rw[e] at this;rcases this with h|⟨j,h⟩<;>cases h
    |_=>rw[e] at this;cases this) (fun _=>trivial) o
   exact(Good.mk k l).trans (wG b k (a.le l) h)
  ·revert h
   show dW _ _ _ _ _
   split<;>intro h
   ·exact g.trans (wG b g.wf (a.le g.le) h)
   ·exact(hr h).elim
  ·exact(hr h).elim
theorem Bf{d:Nat}(b:eT aD d cI)(w:WF aD d ap)(g:di d ap aI)(h:hJ cI jM aI ap=some (.ok (ae,aW))):Good aD d ap aW∧In d aW ae∧fg (aW.at ae):=by
 replace h:=cp h
 obtain⟨v,b6,e,h⟩:=h
 replace h:=cp h
 obtain⟨u,dD,f,h⟩:=h
 replace h:=cp h
 obtain⟨i,n,h3,h⟩:=h
 obtain⟨g1,g2⟩:=tU b w g ed.nil e
 have a:=wG b g1.wf g2 f
 obtain⟨c,j⟩:=hV a.wf (g2.le a.le) h3
 obtain⟨k,l,m⟩:=b.force c.wf j h
 exact⟨((g1.trans a).trans c).trans k,l,m⟩
theorem Bg{d:Nat}(a:eT aD d cI)(w:WF aD d ap)(b:di d ap aI)(h:ha cI dY aI ap=some (.ok (ae,aW))):Good aD d ap aW∧In d aW ae∧fg (aW.at ae):=by
 unfold ha at h
 revert h
 show dW _ _ _ _ _
 split<;>intro h
 ·exact(hr h).elim
 ·exact Bf a w b h
 ·replace h:=cp h
  obtain⟨k,b6,c,h⟩:=h
  obtain⟨g1,_⟩:=pU w c
  obtain⟨e,f,g⟩:=Bf a g1.wf (b.le g1.le) h
  exact⟨g1.trans e,f,g⟩
theorem H6{d:Nat}(g:eT aD d cI)(w:WF aD d ap)(b:di d ap aI)(h:hb aD cI aY aI ap=some (.ok (ae,aW))):Good aD d ap aW∧In d aW ae∧fg (aW.at ae):=by
 unfold hb at h
 revert h
 show dW _ _ _ _ _
 split<;>intro h
 ·exact(hr h).elim
 ·rename_i r q m
  revert h
  show dW _ _ _ _ _
  split<;>intro h
  ·rename_i l
   obtain⟨e,f,_,o,_⟩:=kg w (c:= .fn aY aI) ⟨b,r,q,m,l⟩ h
   exact⟨e,f,by rw[o];trivial⟩
  ·replace h:=cp h
   obtain⟨c,b6,k,h⟩:=h
   obtain⟨g1,g2,j⟩:=Bg g w (fun i a=>b i (List.mem_of_mem_take a)) k
   obtain⟨e,f,n⟩:=tT g g1.wf g2 j (fun i a=>(b i (List.mem_of_mem_drop a)).le g1.le) h
   exact⟨g1.trans e,f,n⟩
variable{wH:Env}
theorem H7{d:Nat}(f:eT aD d cI){p:Ex}{c:Nat}(w:WF aD d ap)(o:In d ap c)(a:ed d ap b3)(h:h9 cI p c b3 ap=some (.ok (wH,aW))):Good aD d ap aW∧ed d aW wH:=by
 unfold h9 at h
 revert h
 show dW _ _ _ _ _
 split<;>intro h
 ·obtain⟨rfl,rfl⟩:=dG h
  exact⟨Good.refl w,a.up o⟩
 ·revert h
  show dW _ _ _ _ _
  split<;>intro h
  ·obtain⟨rfl,rfl⟩:=dG h
   exact⟨Good.refl w,a⟩
  ·replace h:=cp h
   obtain⟨c1,b6,y,h⟩:=h
   obtain⟨g1,g2,F⟩:=f.force w o y
   revert h
   show dW _ _ _ _ _
   split<;>intro h
   ·replace h:=cp h
    obtain⟨x,dD,b,h⟩:=h
    obtain⟨k,rfl⟩:=jL b
    revert h
    show dW _ _ _ _ _
    split<;>intro h
    ·exact(hr h).elim
    ·revert h
     show dW _ _ _ _ _
     split<;>intro h
     ·obtain⟨rfl,rfl⟩:=dG h
      exact⟨g1,a.le g1.le⟩
     ·exact(hr h).elim
    ·exact(hr h).elim
   ·replace h:=cp h
    obtain⟨x,dD,b,h⟩:=h
    obtain⟨k,rfl⟩:=jL b
    revert h
    show dW _ _ _ _ _
    split<;>intro h
    ·replace h:=cp h
     obtain⟨l,D,h3,h⟩:=h
     replace h:=cp h
     obtain⟨u,E,z,h⟩:=h
     obtain⟨s,_,m,_⟩:=Bb g1.wf h3
     have g:=g1.trans s
     obtain⟨t,v,_,_,C⟩:=pV g.wf g.le (g2.le s.le) (show jp aD d D (.cw _ l) from m) (fun A=>by
      have:=g1.le.cell c1 A
      rw[←k] at this
      cases e:ap.at c1 with
      |unknown=>exact .inr ⟨_,_,rfl⟩
      |dF _ _=>rw[e] at this;rcases this with h|⟨j,h⟩<;>cases h
      |_=>rw[e] at this;cases this) (fun _=>trivial) z
     have B:di d E l:=fun i q=>⟨(m i q).1,by rw[C];exact(m i q).2⟩
     obtain⟨n1,n⟩:=tU f t B (a.le v) h
     exact⟨(Good.mk t v).trans n1,n⟩
    ·revert h
     show dW _ _ _ _ _
     split<;>intro h
     ·have r:=g1.wf.ok c1 g2
      rw[←k] at r
      obtain⟨n1,n⟩:=tU f g1.wf r (a.le g1.le) h
      exact⟨g1.trans n1,n⟩
     ·exact(hr h).elim
    ·exact(hr h).elim
theorem Bh{rs:cU}{d:Nat}{f:cT}(e:eT rs d f):∀{l s a:List Nat} {st a1:PS},WF rs d st→di d st l→di d st s→gg f l s st=some (.ok (a,a1))→Good rs d st a1∧di d a1 a
 |[],s,a,st,a1,w,b,c,h=>by
  obtain⟨rfl,rfl⟩:=dG h
  exact⟨Good.refl w,c⟩
 |x::r,s,a,st,a1,w,b,c,h=>by
  replace h:=cp h
  obtain⟨n,b6,g,h⟩:=h
  obtain⟨g1,g2⟩:=e.whole w (b x (hD ..)) c g
  obtain⟨k,m⟩:=Bh e g1.wf (fun i j=>(b i (iT _ j)).le g1.le) g2 h
  exact⟨g1.trans k,m⟩
theorem Bj{d:Nat}(j:eT aD d cI){c:Nat}(w:WF aD d ap)(e:In d ap c)(b:di d ap aI)(h:eB cI c aI ap=some (.ok (gA,aW))):Good aD d ap aW∧di d aW gA:=by
 replace h:=cp h
 obtain⟨x,dD,g,h⟩:=h
 obtain⟨k,rfl⟩:=jL g
 revert h
 show dW _ _ _ _ _
 split<;>intro h
 ·revert h
  show dW _ _ _ _ _
  split<;>intro h
  ·obtain⟨rfl,rfl⟩:=dG h
   exact⟨Good.refl w,b⟩
  ·have f:=w.ok c e
   rw[←k] at f
   exact Bh j w f (fun i a=>by
    rcases dX.1 a with rfl|a
    ·exact e
    ·exact b i a) h
 ·obtain⟨rfl,rfl⟩:=dG h
  exact⟨Good.refl w,b⟩
theorem H8{d:Nat}(a:eT aD d cI){c:Nat}(w:WF aD d ap)(e:In d ap c)(f:di d ap aI)(h:kf cI c aI ap=some (.ok (gA,aW))):Good aD d ap aW∧di d aW gA:=by
 replace h:=cp h
 obtain⟨c1,b6,b,h⟩:=h
 obtain⟨g1,g2,_⟩:=a.force w e b
 obtain⟨g,i⟩:=Bj a g1.wf g2 (f.le g1.le) h
 exact⟨g1.trans g,i⟩
theorem Bk{rs:cU}{d:Nat}{f:cT}(j:eT rs d f):∀{cs l:List Nat} {r:Nat} {x:List Ty×List Nat×Nat} {st a1:PS},WF rs d st→di d st cs→di d st l→reads f cs l r st=some (.ok (x,a1))→Good rs d st a1∧di d a1 x.2.1
 |[],l,r,x,st,a1,w,e,g,h=>by
  obtain⟨rfl,rfl⟩:=dG h
  exact⟨Good.refl w,g⟩
 |c::q,l,r,x,st,a1,w,e,g,h=>by
  replace h:=cp h
  obtain⟨a,b6,k,h⟩:=h
  replace h:=cp h
  obtain⟨b,dD,m,h⟩:=h
  obtain⟨rfl,rfl⟩:=dG h
  obtain⟨g1,g2⟩:=j.read w (e c (hD ..)) g k
  obtain⟨o,p⟩:=Bk j g1.wf (fun i n=>(e i (iT _ n)).le g1.le) g2 m
  exact⟨g1.trans o,p⟩
theorem H9{d:Nat}(k:eT aD d cI){c:Nat}{x:Ty×List Nat×Nat}(w:WF aD d ap)(f:In d ap c)(e:di d ap aI)(h:fm cI c aI ae ap=some (.ok (x,aW))):Good aD d ap aW∧di d aW x.2.1:=by
 replace h:=cp h
 obtain⟨y,dD,j,h⟩:=h
 obtain⟨l,rfl⟩:=jL j
 revert h
 show dW _ _ _ _ _
 split<;>intro h
 ·obtain⟨rfl,rfl⟩:=dG h
  exact⟨Good.refl w,e⟩
 ·obtain⟨rfl,rfl⟩:=dG h
  exact⟨Good.refl w,e⟩
 ·replace h:=cp h
  obtain⟨b,o,h3,h⟩:=h
  obtain⟨rfl,rfl⟩:=dG h
  have g:=w.ok c f
  rw[←l] at g
  obtain⟨m,n⟩:=Bk k w g e h3
  exact⟨m,n⟩
 ·revert h
  show dW _ _ _ _ _
  split<;>intro h
  ·obtain⟨rfl,rfl⟩:=dG h
   exact⟨Good.refl w,e⟩
  ·obtain⟨rfl,rfl⟩:=dG h
   exact⟨Good.refl w,fun i a=>by
    rcases fM.1 a with a|a
    ·exact e i a
    ·rcases tO.1 a with rfl
     exact f⟩
theorem Ia{d:Nat}(a:eT aD d cI){c:Nat}{x:Ty×List Nat×Nat}(w:WF aD d ap)(f:In d ap c)(b:di d ap aI)(h:iP cI c aI ae ap=some (.ok (x,aW))):Good aD d ap aW∧di d aW x.2.1:=by
 unfold iP at h
 revert h
 show dW _ _ _ _ _
 split<;>intro h
 ·obtain⟨rfl,rfl⟩:=dG h
  exact⟨Good.refl w,b⟩
 ·replace h:=cp h
  obtain⟨c1,b6,e,h⟩:=h
  obtain⟨g1,g2,_⟩:=a.force w f e
  obtain⟨g,i⟩:=H9 a g1.wf g2 (b.le g1.le) h
  exact⟨g1.trans g,i⟩
theorem eT.next{d:Nat}(a:eT aD d cI):eT aD d (next aD cI):=
 ⟨H3 a,H5 a,H6 a,H7 a,H8 a,Ia a⟩
theorem eT.aB(rs:cU)(d:Nat):∀g,eT rs d (aB rs g)
 |0=>⟨fun _ _ h=>(by cases h),fun _ _ h=>(by cases h),fun _ _ h=>(by cases h),fun _ _ _ h=>(by cases h),fun _ _ _ h=>(by cases h),fun _ _ _ h=>(by cases h)⟩
 |g+1=>(eT.aB rs d g).next
end Go.Proofs.YthnogncknmhgoaaGreat.Mo
namespace Go.Proofs.YthnogncknmhgoaaGreat.Vm
open ChangeShapes WideShapes ChangeAt RowKit bq Data Mo
variable{cj:Act}{dj:eF}{b3:Env}{aM:Ex}{eN:Exit}{dy:Exit→Act→Wd→Prop}{aJ:Hx}{fr By:IntKind}{aj:LV}{e8:List (List Nat)}{bu:List (Nat×AV)}{aS:List Bx}{cv:List Ex}{cC:List Int}{aI:List Nat}{gh:Mo.ei Nat}{ae ao aX eO wO:Nat}{a0:Nat→Nat}{aA:OA}{ap aW iz:PS}{tm:Prop}{aD:cU}{hs:tS}{cW:Type}{aH ci Ip:TypeId}{az cM:Vl}{ah bR:Wd}
def fE (R:World) (b:Nat) (c:List Value):Prop:=c=[bP b]
theorem fZ:eR fE 1:=⟨fun h _=>h,fun h=>by rw[h];rfl,fun h u hu=>by rw[h] at hu;simp at hu;subst hu;rfl⟩
def hc (bl:Nat→Nat) (v:Env):ByteArray→Option Value:=fun s=>(v s).map fun i=>bP (bl i)
def ia (K:Hp) (bl:Nat→Nat) (val:Value) (v:Env):Prop:=∃a es b,val= .map (some a)∧K a=some (.map es b)∧g9 es (hc bl v)
structure Cv where
 k:Value
 e0:Value
 e1:Value
 e2:Value
 e3:Value
 e4:Value
 e5:Value
 env:Value
 lk:Value
 n:Value
 nm:Value
 ar:Value
def Cv.l (c:Cv):List Value:=[c.k,c.e0,c.e1,c.e2,c.e3,c.e4,c.e5,c.env,c.lk,c.n,c.nm,c.ar]
def dv (R:World) (K:Hp) (bl:Nat→Nat):PC→Cv→Prop
 | .dF e v,c=>c.k= .int .i64 0∧Ex.Cs R e [c.e0,c.e1,c.e2,c.e3,c.e4,c.e5]∧e.size≤100000∧ia K bl c.env v
 | .link j,c=>c.k= .int .i64 1∧c.lk=bP (bl j)
 | .unknown,c=>c.k= .int .i64 2
 | .num n,c=>c.k= .int .i64 3∧c.n= .int .i64 n
 | .cw s l,c=>c.k= .int .i64 4∧c.nm= .string s∧a6 fE 1 R c.ar (l.map bl)
 | .fn s l,c=>c.k= .int .i64 5∧c.nm= .string s∧a6 fE 1 R c.ar (l.map bl)
def mE (c:Cv):Obj:= .cells c.l.toArray 204 (0,0)
def Ib (R:World) (X:Hx) (bl:Nat→Nat) (b:Nat) (p:PC):Prop:=∃c:Cv,X.H b=some (mE c)∧dv R X.K bl p c
def rE (R:World) (K:Hp) (v:Value) (rs:cU):Prop:=∃a es b f,v= .map (some a)∧K a=some (.map es b)∧g9 es f∧∀s,(match f s with|none=>rs s=[]|some u=>a6 Rl.Cs 11 R u (rs s))∧∀r∈rs s,r.eo≤100000
def Bl (a pv:Value) (ay:Nat):Obj:= .cells [a,pv,.int .i64 (ay:Int)].toArray 196 (0,0)
structure dq (d wb:Nat) (rs:cU) (bl:Nat→Nat) (st:PS) (R:World) (X:Hx):Prop where
 cell:∀i,In d st i→Ib R X bl (bl i) (st.at i)
 inj:∀i j,In d st i→In d st j→bl i=bl j→i=j
 ne:∀i,In d st i→bl i≠wb
 world:∃fv pv,X.H wb=some (Bl fv pv st.ay)∧rE R X.K fv rs∧a6 dU 1 R pv st.jJ
 ay:st.ay≤65536
def eC (K K':Hp):Prop:=∀b ob,K b=some ob→K' b=some ob
theorem eC.refl(K:Hp):eC K K:=fun _ _ h=>h
theorem eC.trans{A B C:Hp}(h:eC A B)(k:eC B C):eC A C:=fun b ob a=>k b ob (h b ob a)
def fF (d:Nat) (st:PS) (bl ef:Nat→Nat):Prop:=∀i,In d st i→ef i=bl i
theorem fF.refl{d:Nat}{st:PS}(bl:Nat→Nat):fF d st bl bl:=fun _ _=>rfl
abbrev g0:=@fF.refl
theorem fF.trans{d:Nat}{st a1:PS}{a b c:Nat→Nat}(h:fF d st a b)(k:fF d a1 b c)(l:Le st a1):fF d st a c:=fun i e=>(k i (e.le l)).trans (h i e)
section
variable{d wb:Nat}{rs:cU}{bl ef:Nat→Nat}{st a1:PS}{R R':Wd}{X X':Hx}{K K':Hp}
theorem ia.mono(h:ia K bl az b3)(e:eC K K'):ia K' bl az b3:=by
 obtain⟨b,es,a,c,d,h3⟩:=h
 exact⟨b,es,a,c,e _ _ d,h3⟩
theorem ia.jN(h:ia K bl az b3)(j:ed d st b3)(g:fF d st bl ef):ia K ef az b3:=by
 obtain⟨b,es,a,c,f,h3⟩:=h
 have:hc ef b3=hc bl b3:=by
  funext s
  unfold hc
  cases e:b3 s with
  |none=>rfl
  |some i=>simp only[Option.map_some];rw[g i (j s i e)]
 exact⟨b,es,a,c,f,by rw[this];exact h3⟩
theorem l3(c:di d st aI)(a:fF d st bl ef):aI.map ef=aI.map bl:=List.map_congr_left fun i b=>a i (c i b)
theorem a6.sub{α:Type}{P:Wd→α→LV→Prop}{size:Nat}{v:Vl}{l:List α}(E:eR P size)(h:a6 P size R v l)(c:Sub R R'):a6 P size R' v l:=by
 obtain⟨A,cap,a,b,h3⟩:=h
 exact⟨A,cap,a,b,h3.sub E c⟩
theorem dv.mono{p:PC}{c:Cv}(h:dv R K bl p c)(a:Sub R R')(b:eC K K'):dv R' K' bl p c:=by
 cases p with
 |dF e v=>exact⟨h.1,h.2.1.sub a,h.2.2.1,h.2.2.2.mono b⟩
 |cw s l=>exact⟨h.1,h.2.1,a6.sub fZ h.2.2 a⟩
 |fn s l=>exact⟨h.1,h.2.1,a6.sub fZ h.2.2 a⟩
 |_=>exact h
theorem dv.jN{p:PC}{c:Cv}(h:dv R K bl p c)(b:jp rs d st p)(a:fF d st bl ef):dv R K ef p c:=by
 cases p with
 |dF e v=>exact⟨h.1,h.2.1,h.2.2.1,h.2.2.2.jN b a⟩
 |link j=>exact⟨h.1,by rw[a j b.1];exact h.2⟩
 |cw s l=>exact⟨h.1,h.2.1,by rw[l3 b a];exact h.2.2⟩
 |fn s l=>exact⟨h.1,h.2.1,by rw[l3 b.1 a];exact h.2.2⟩
 |_=>exact h
theorem rE.mono(h:rE R K az rs)(j:Sub R R')(i:eC K K'):rE R' K' az rs:=by
 obtain⟨c,es,b,f,d,g,h3,a⟩:=h
 refine⟨c,es,b,f,d,i _ _ g,h3,fun s=>⟨?_,(a s).2⟩⟩
 have:=(a s).1
 cases e:f s with
 |none=>rw[e] at this;exact this
 |some u=>rw[e] at this;exact a6.sub dt this j
theorem dq.mono(h:dq d wb rs bl st R X)(e:Sub R R')(f:eC X.K K'):dq d wb rs bl st R' ⟨K',X.H⟩:=by
 refine⟨fun i j=> ?_,h.inj,h.ne,?_,h.ay⟩
 ·obtain⟨c,a,b⟩:=h.cell i j
  exact⟨c,a,b.mono e f⟩
 ·obtain⟨g,pv,a,b,h3⟩:=h.world
  exact⟨g,pv,a,b.mono e f,a6.sub cP h3 e⟩
theorem dq.lt(h:dq d wb rs bl st R X){i:Nat}(b:In d st i):X.H (bl i)≠none:=by
 obtain⟨c,a,_⟩:=h.cell i b
 rw[a];simp
theorem dq.own(h:dq d wb rs bl st R X):X.H wb≠none:=by
 obtain⟨b,pv,a,_⟩:=h.world
 rw[a];simp
theorem dq.set(h:dq d wb rs bl st R X)(w:WF rs d st){i:Nat}(l:In d st i){p:PC}{c:Cv}(o:dv R X.K bl p c):dq d wb rs bl {st with cells:=st.cells.set i p} R ⟨X.K,aQ X.H (bl i) (mE c)⟩:=by
 have b:∀j,In d {st with cells:=st.cells.set i p} j↔In d st j:=fun j=>by unfold In;rw[jq]
 refine⟨fun j a=> ?_,fun j k a r=>h.inj j k ((b j).1 a) ((b k).1 r),fun j a=>h.ne j ((b j).1 a),?_,h.ay⟩
 ·have m:=(b j).1 a
  rw[nq]
  by_cases e:i=j
  ·subst e
   rw[if_pos ⟨rfl,l.2⟩]
   exact⟨c,b0 _ _ _,o⟩
  ·rw[if_neg (fun q=>e q.1)]
   obtain⟨c',f,g⟩:=h.cell j m
   exact⟨c',(bh _ _ (fun q=>e (h.inj i j l m q.symm))).trans f,g⟩
 ·obtain⟨n,pv,f,g,h3⟩:=h.world
  exact⟨n,pv,(bh _ _ (fun q=>h.ne i l q.symm)).trans f,g,h3⟩
theorem dq.new(h:dq d wb rs bl st R X)(w:WF rs d st)(o:X.H ae=none){p:PC}(x:jp rs d st p){c:Cv}(u:dv R X.K bl p c):
 ∃ef,dq d wb rs ef {st with cells:=st.cells++ [p]} R ⟨X.K,aQ X.H ae (mE c)⟩∧fF d st bl ef∧ef st.len=ae:=by
 have f:fF d st bl (fun i=>if i=st.len then ae else bl i):=fun i b=>if_neg (Nat.ne_of_lt b.2)
 have v:({st with cells:=st.cells++ [p]}:PS).len=st.len+1:=by simp[PS.len]
 have k:∀i,In d {st with cells:=st.cells++ [p]} i→In d st i∨i=st.len:=by
  intro i b
  have:=b.2
  rw[v] at this
  by_cases e:i<st.len
  ·exact .inl ⟨b.1,e⟩
  ·exact .inr (by omega)
 have r:∀i,In d st i→bl i≠ae:=fun i b q=>h.lt b (by rw[q];exact o)
 refine⟨fun i=>if i=st.len then ae else bl i,⟨fun i b=> ?_,fun i j b s g=> ?_,fun i b=> ?_,?_,h.ay⟩,f,if_pos rfl⟩
 ·rcases k i b with a|rfl
  ·simp only[f i a]
   rw[rB i a.2]
   obtain⟨c',m,n⟩:=h.cell i a
   exact⟨c',(bh _ _ (r i a)).trans m,n.jN (w.ok i a) f⟩
  ·simp only[↓reduceIte]
   rw[wE]
   exact⟨c,b0 _ _ _,u.jN x f⟩
 ·rcases k i b with a|rfl
  ·rcases k j s with l|rfl
   ·simp only[f i a,f j l] at g
    exact h.inj i j a l g
   ·simp only[f i a,↓reduceIte] at g
    exact absurd g (r i a)
  ·rcases k j s with l|rfl
   ·simp only[f j l,↓reduceIte] at g
    exact absurd g.symm (r j l)
   ·rfl
 ·rcases k i b with a|rfl
  ·simp only[f i a]
   exact h.ne i a
  ·simp only[↓reduceIte]
   exact fun q=>h.own (by rw[←q];exact o)
 ·obtain⟨t,pv,m,n,h3⟩:=h.world
  exact⟨t,pv,(bh _ _ (fun q=>h.own (by rw[q];exact o))).trans m,n,h3⟩
theorem dq.ko(h:dq d wb rs bl st R X){jJ:List Int}(f:ae≤65536)(j:rE R X.K az rs)(g:a6 dU 1 R cM jJ):dq d wb rs bl ⟨st.cells,ae,jJ⟩ R ⟨X.K,aQ X.H wb (Bl az cM ae)⟩:=by
 refine⟨fun i a=> ?_,h.inj,h.ne,⟨az,cM,b0 _ _ _,j,g⟩,f⟩
 obtain⟨c,b,e⟩:=h.cell i a
 exact⟨c,(bh _ _ (h.ne i a)).trans b,e⟩
end
def oy (t:tS):List PanicEntry:=[{v:= .iface 173 (.agg #[.int .i64 (t.1:Int),.int .i64 t.2]),recovered:=false}]
def Out {α:Type} (d wb:Nat) (rs:cU) (bl:Nat→Nat) (st:PS) (γ:α→(Nat→Nat)→Value→PS→World→Hx→Prop) (m:Nat→M α):ka:=fun E ts R' X'=>
 ts=[]∧∃r,aG m st r∧match r with
  | .ok (a,a1)=>∃ef v,dq d wb rs ef a1 R' X'∧fF d st bl ef∧E= .returned v∧γ a ef v a1 R' X'
  | .error t=>E= .panicked (oy t)
def l4:Nat→(Nat→Nat)→Value→PS→World→Hx→Prop:=fun a ef v _ _ _=>v=bP (ef a)
theorem kT:cr 51 false 1:=by unfold cr;kernel_rfl
theorem rF:cr 204 true 12:=by unfold cr;kernel_rfl
theorem eU:aF 121:=by unfold aF;kernel_rfl
theorem Ic(wh:Int):cJ 121 [zI wh] [] ah aJ (fun E ts R' X'=>ts=[]∧X'=aJ∧E= .panicked [{v:= .iface 173 (.agg #[zI wh,zI 0]),recovered:=false}]):=by
 refine eh func121 rfl ntmps121 rfl fun w G ad=> ?_
 refine cG 2 rfl (xp (bJ (vs:=[(0,zI wh)]) (v:= .agg #[zI wh,zI 0]) rfl (fun W=>by kernel_rfl)) rfl (xp (AE (v:= .agg #[zI wh,zI 0]) rfl (fun W=>by rfl)) rfl ?_))
 refine A3 rfl ?_
 exact AH (List.Sublist.refl _) ⟨rfl,rfl,rfl⟩
theorem eV(wh:Int):cJ 121 [zI wh] [] ah aJ (fun E ts R' X'=>ts=[]∧E= .panicked [{v:= .iface 173 (.agg #[zI wh,zI 0]),recovered:=false}]):=(Ic wh).mono fun E ts R' X' h=>⟨h.1,h.2.2⟩
def wI (b:Bool):Cv:=⟨.int .i64 4,.int .i64 0,.string ⟨#[]⟩,.int .i64 0,.slice none 0 0,.int .i64 0,.int .i64 0,.map none,.pointer none,.int .i64 0,.string (if b then iN else ox),.slice none 0 0⟩
theorem tV(b:Bool):cJ 140 [.bool b] [] ah aJ (fun E ts R' X'=>ts=[]∧X'=aJ∧E= .returned (.agg (wI b).l.toArray)):=by
 refine eh func140 rfl ntmps140 rfl fun w G ad=> ?_
 refine cG 11 rfl ?_
 cases a:(b)
 refine aE 5 rfl (xp (bJ (vs:=[(0,zI 4),(5,.string ⟨#[70,97,108,115,101]⟩)]) (v:= .agg #[zI 4,zI 0,.string ⟨#[]⟩,zI 0,zS,zI 0,zI 0,.map none,.pointer none,zI 0,.string ⟨#[70,97,108,115,101]⟩,zS]) rfl (fun W=>by kernel_rfl)) rfl (an 4 rfl (ww 1 ?_)))
 rotate_left
 refine aE 3 rfl (xp (bJ (vs:=[(0,zI 4),(5,.string ⟨#[84,114,117,101]⟩)]) (v:= .agg #[zI 4,zI 0,.string ⟨#[]⟩,zI 0,zS,zI 0,zI 0,.map none,.pointer none,zI 0,.string ⟨#[84,114,117,101]⟩,zS]) rfl (fun W=>by kernel_rfl)) rfl (an 5 rfl (ww 1 ?_)))
 rotate_left
 any_goals
  refine uw 1 ?_
  exact jG results140 (aK rfl rfl rF) (List.Sublist.refl _) ⟨rfl,rfl,rfl⟩
theorem wJ{d wb:Nat}(h:dq d wb aD a0 ap ah aJ)(n:Nat):cJ 135 [bP wb,zI (n:Int)] [] ah aJ (Out d wb aD a0 ap (fun k ef v a1 _ _=>v=zI (k:Nat)) (fun _=>pick n)):=by
 obtain⟨e,pv,a,y,B⟩:=h.world
 obtain⟨p,c,rfl,l,g⟩:=B
 obtain⟨q,b,C⟩:=ap
 simp only at a l g
 refine eh func135 rfl ntmps135 rfl fun w G ad=> ?_
 cases C with
 |nil=>
  simp only[List.length_nil] at a l g
  refine cG 11 rfl (bz (bw (cs:=[e,.slice p 0 c,zI (b:Nat)]) rfl (.inr (a)) kT rfl) rfl (an 7 rfl (xp (bJ (vs:=[(0,zI 1),(1,zI (n:Nat))]) (v:= .agg #[zI 1,zI (n:Nat)]) rfl (fun W=>by kernel_rfl)) rfl (xp (AE (v:= .agg #[zI 1,zI (n:Nat)]) rfl (fun W=>by rfl)) rfl ?_))))
  refine A3 rfl ?_
  refine br 1 rfl ?_
  exact cL ⟨rfl,.error (1,(n:Int)),b8 rfl,rfl⟩
 |cons k r=>
  simp only[List.length_cons] at a l g
  obtain⟨f,j,H,rfl,u,z⟩:=a5.get cP g 0 (by simp)
  have A:=z 0 (zI k) (by rw[u];rfl)
  have x:=a6.drop cP (i:=1) l g (by simp)
  refine cG 11 rfl (bz (bw (cs:=[e,.slice (some ⟨f,j,none⟩) (r.length+1) c,zI (b:Nat)]) rfl (.inr (a)) kT rfl) rfl (an 4 rfl ?_))
  cases t:((((r.length+1):Nat):Int)==0)
  refine aE 8 rfl (bz (bw (cs:=[e,.slice (some ⟨f,j,none⟩) (r.length+1) c,zI (b:Nat)]) rfl (.inr (a)) kT rfl) rfl (xp (a3 (i:=0) rfl rfl rfl (Nat.succ_pos _) gE) rfl (xp (dT rfl bG A) rfl (an 9 rfl (bz (bw (cs:=[e,.slice (some ⟨f,j,none⟩) (r.length+1) c,zI (b:Nat)]) rfl (.inr (a)) kT rfl) rfl (xp (od (i:=1) rfl rfl (Nat.succ_le_succ (b2 _)) gE rfl) rfl (an 2 rfl ?_)))))))
  refine ke (cs:=[e,.slice (some ⟨f,j,none⟩) (r.length+1) c,zI (b:Nat)]) [e,sliced (some ⟨f,j,none⟩) 1 (r.length+1) c 1,zI (b:Nat)] rfl rfl a kT rfl rfl rfl rfl ?_
  intro E s I
  refine an 8 rfl ?_
  cases J:(decide (k<0))
  refine an 6 rfl ?_
  cases K:(decide (k≥((n:Nat):Int)))
  refine aE 10 rfl ?_
  have m:¬(k<0∨(n:Int)≤k):=by simp only[decide_eq_true_eq,decide_eq_false_iff_not] at*;omega
  obtain⟨o,rfl⟩:∃o:Nat,k=o:=⟨k.toNat,by omega⟩
  refine dm results135 (aT rfl) ⟨rfl,.ok (o,⟨q,b,r⟩),b8 ?_,a0,_,?_,g0 _,rfl,rfl⟩
  simp only[pick,if_neg m]
  rfl
  subst s
  exact h.ko (jJ:=r) h.ay y (by simpa using x)
  refine aE 2 rfl (ww 1 ?_)
  rotate_left
  refine an 8 rfl (ww 1 ?_)
  rotate_left
  exact absurd t (by simp;omega)
  any_goals
   refine uw 1 ?_
   refine eS (eV 2) eU rfl rfl (fun D F=> ?_)
   refine br 1 rfl ?_
   have m:k<0∨(n:Int)≤k:=by simp only[decide_eq_true_eq,decide_eq_false_iff_not] at*;omega
   exact cL ⟨rfl,.error (2,0),b8 (by simp only[pick,if_pos m]),rfl⟩
theorem Ie{e:Ex}{i:Nat}(a:e.k=1)(b:b3 e.s=some i):later e b3=M.ret i:=by
 unfold later
 rw[if_pos a,b]
theorem If{e:Ex}(a:e.k≠1):later e b3=new (.dF e b3):=by
 unfold later
 rw[if_neg a]
theorem Ig{e:Ex}(b:b3 e.s=none):later e b3=new (.dF e b3):=by
 unfold later
 by_cases a:e.k=1
 ·rw[if_pos a,b]
 ·rw[if_neg a]
theorem pW:kc 200 .string (.pointer none):=⟨9,202,by kernel_rfl,by kernel_rfl,fun W=>by rfl⟩
theorem nr{bx bs:List Bx}{rw:List bU}(e:bx=bs++ [(aH,aj)])(f:Nat.ble dj.nb bs.length=true)
 (k:∀b X',aJ.K b=none→aJ.H b=none→X'=⟨aJ.K,aQ aJ.H b (.cells aj.toArray aH (0,0))⟩→DX dj dy eN ⟨kL bs.length b bu,bs,rw⟩ ah X'):DX dj dy eN ⟨bu,bx,rw⟩ ah aJ:=by
 subst e
 intro ad a W h
 obtain⟨c,d,h3⟩:=h.tN (hP f)
 exact k _ _ c d rfl ad a W h3
theorem mF{d wb:Nat}(H:WF aD d ap)(h:dq d wb aD a0 ap ah aJ){e:Ex}(L:Ex.Cs ah e aj)(D:e.size≤100000){v:Env}(E:ia aJ.K a0 az v)(C:ed d ap v):cJ 96 [.agg aj.toArray,az] [] ah aJ (Out d wb aD a0 ap l4 (fun _=>later e v)):=by
 obtain⟨a,b,ne,j,g,f⟩:=e
 obtain⟨l,m,rfl,B,o⟩:=L
 have F:=E
 obtain⟨n,es,M,rfl,y,A⟩:=E
 replace o:=c9.1 o
 refine eh func96 rfl ntmps96 rfl fun w G ad=> ?_
 cases q:v b with
 |none=>
  refine cG 12 rfl (bz (jl (r:= .tuple #[.pointer none,.bool false]) rfl rfl (.inl y) A pW (by simp[hc,q])) rfl (an 24 rfl (xp (bJ (vs:=[(1,.agg #[zI a,.string b,zI ne,.slice l j.length m,zI g,zI f]),(2,.map (some n))]) (v:= .agg #[zI 0,zI a,.string b,zI ne,.slice l j.length m,zI g,zI f,.map (some n),.pointer none,zI 0,.string ⟨#[]⟩,zS]) rfl (fun W=>by kernel_rfl)) rfl (an 5 rfl ?_))))
  refine nr (bs:=[(31,[zI a,.string b,zI ne,.slice l j.length m,zI g,zI f])]) rfl rfl ?_
  rintro J I -x rfl
  obtain⟨ef,t,s,u⟩:=h.new H x (p:= .dF (.mk a b ne j g f:Ex) v) C (c:=⟨zI 0,zI a,.string b,zI ne,.slice l j.length m,zI g,zI f,.map (some n),.pointer none,zI 0,.string ⟨#[]⟩,zS⟩) ⟨rfl,de B o,D,F⟩
  exact dm results96 (aT rfl) ⟨rfl,.ok (_,_),b8 (by rw[Ig (e:=(.mk a b ne j g f:Ex)) q];rfl),ef,_,t,s,rfl,(congrArg bP u).symm⟩
 |some i=>
  refine cG 12 rfl (bz (jl (r:= .tuple #[bP (a0 i),.bool true]) rfl rfl (.inl y) A pW (by simp[hc,q])) rfl (an 17 rfl ?_))
  cases z:(a==1)
  refine aE 7 rfl (xp (bJ (vs:=[(1,.agg #[zI a,.string b,zI ne,.slice l j.length m,zI g,zI f]),(2,.map (some n))]) (v:= .agg #[zI 0,zI a,.string b,zI ne,.slice l j.length m,zI g,zI f,.map (some n),.pointer none,zI 0,.string ⟨#[]⟩,zS]) rfl (fun W=>by kernel_rfl)) rfl (an 5 rfl ?_))
  refine nr (bs:=[(31,[zI a,.string b,zI ne,.slice l j.length m,zI g,zI f])]) rfl rfl ?_
  rintro J I -x rfl
  obtain⟨ef,t,s,u⟩:=h.new H x (p:= .dF (.mk a b ne j g f:Ex) v) C (c:=⟨zI 0,zI a,.string b,zI ne,.slice l j.length m,zI g,zI f,.map (some n),.pointer none,zI 0,.string ⟨#[]⟩,zS⟩) ⟨rfl,de B o,D,F⟩
  exact dm results96 (aT rfl) ⟨rfl,.ok (_,_),b8 (by rw[If (e:=(.mk a b ne j g f:Ex)) (by simpa[Ex.k] using z)];rfl),ef,_,t,s,rfl,(congrArg bP u).symm⟩
  refine aE 9 rfl ?_
  exact dm results96 (aT rfl) ⟨rfl,.ok (i,ap),b8 (by rw[Ie (e:=(.mk a b ne j g f:Ex)) (by simpa[Ex.k] using z) q];rfl),a0,_,h,g0 _,rfl,rfl⟩
theorem jr:c7 201 202 1:=by unfold c7;kernel_rfl
theorem oz:dO 201 202 1 8:=by unfold dO;kernel_rfl
theorem mG:aF 96:=by unfold aF;kernel_rfl
theorem rG(hh:cF aA aM.ys.length ae)(a:a5 Ex.Cs 6 ah aA aM.ys):Ex.Cs ah aM [zI aM.k,.string aM.s,zI aM.n,.slice aA aM.ys.length ae,zI aM.l,zI aM.c]:=by
 cases aM
 exact de hh a
theorem fo{c:LV}(h:Ex.Cs ah aM c):∃A cap,c=[zI aM.k,.string aM.s,zI aM.n,.slice A aM.ys.length cap,zI aM.l,zI aM.c]∧cF A aM.ys.length cap∧a5 Ex.Cs 6 ah A aM.ys:=by
 cases aM
 obtain⟨A,cap,rfl,hh,a⟩:=h
 exact⟨A,cap,rfl,hh,c9.1 a⟩
theorem cR{m:M cW}{r:Mo.ei cW}(h:aG (fun _=>m) ap r):m ap=some r:=by
 obtain⟨G,h⟩:=h
 exact h G (a9 _)
theorem mH(h:later aM b3 ap=some (.error hs)):False:=by
 unfold later at h
 cases a:(if aM.k=1 then b3 aM.s else none) with
 |none=>rw[a] at h;cases h
 |some i=>rw[a] at h;cases h
theorem Bm{v:Env}:∀{l:List Ex} {st:PS} {t:tS},fz v l st=some (.error t)→False
 |[],st,t,h=>by cases h
 |e::r,st,t,h=>by
  unfold fz M.bind at h
  cases c:later e v st with
  |none=>rw[c] at h;cases h
  |some x=>
   rcases x with f|⟨a,b6⟩
   ·exact mH c
   ·rw[c] at h
    simp only at h
    cases d:fz v r b6 with
    |none=>rw[d] at h;cases h
    |some y=>
     rcases y with f|⟨b,dD⟩
     ·exact Bm d
     ·rw[d] at h;cases h
theorem Ih{i:Nat}(d:i<cv.length){c:Nat}(a:later cv[i] b3 ap=some (.ok (c,aW)))(b:fz b3 (cv.drop (i+1)) aW=some (.ok (aI,iz))):fz b3 (cv.drop i) ap=some (.ok (c::aI,iz)):=by
 rw[List.drop_eq_getElem_cons d]
 simp only[fz,M.bind,a,b]
 rfl
theorem rH(h:aM∈cv):aM.size≤aO cv:=by
 induction cv with
 |nil=>cases h
 |cons a r b=>
  rw[aO]
  rcases dX.1 h with rfl|h
  ·omega
  ·have:=b h;omega
theorem wK{d wb:Nat}(aw:WF aD d ap)(h:dq d wb aD a0 ap ah aJ)(ag:a6 Ex.Cs 6 ah az cv)(ar:∀e∈cv,e.size≤100000)(au:ia aJ.K a0 cM b3)(z:ed d ap b3):cJ 123 [az,cM] [] ah aJ (Out d wb aD a0 ap (fun l ef u _ R' _=>a6 fE 1 R' u (l.map ef)) (fun _=>fz b3 cv)):=by
 obtain⟨Al,dA,rfl,L,ao⟩:=ag
 refine eh func123 rfl ntmps123 rfl fun w G ad=> ?_
 refine lg 202 1 ?_
 refine cG 19 rfl ?_
 refine eA (ι:=Nat×(Nat→Nat)×PS×Wd×Hx×(List Nat)×(List Nat)×LV×OA×Nat) [0,1,8,9] 0 rfl (fun(i,g,b,c,f,ids,bs,xs,A,cap)=>(⟨[(5,.val (.slice A bs.length cap)),(10,.val (zI (i:Nat)))],[],[⟨.slice A bs.length cap,bs.length,xs,202,1⟩]⟩,c,f,i≤cv.length∧WF aD d b∧dq d wb aD g b c f∧Le ap b∧fF d ap a0 g∧Sub ah c∧eC aJ.K f.K∧ids.length=i∧bs=ids.map g∧di d b ids∧dL fE 1 c A bs cap xs∧∀s dD,fz b3 (cv.drop i) b=some (.ok (s,dD))→fz b3 cv ap=some (.ok (ids++s,dD)),cv.length -i)) (0,a0,ap,ah,aJ,[],[],[],none,0) rfl rfl rfl [1] rfl ?_ ?_
 exact⟨Nat.zero_le _,aw,h,Le.refl _,g0 _,sR,eC.refl _,rfl,rfl,fun i aj=>(by cases aj),dL.nil,fun s dD a=>by simpa using a⟩
 rintro⟨i,g,b,c,f,ids,bs,xs,A,cap⟩ ⟨aN,T,P,p,v,S,N,M,x,F,⟨J,aq,al,af,Y⟩,Q⟩
 show VX _ _ _ ⟨_,_,_⟩ c f
 have aO:bs.length=i:=by rw[x,List.length_map,M]
 refine aE 6 rfl ?_
 cases H:(decide (((i:Nat):Int)<((cv.length:Nat):Int)))
 have y:i=cv.length:=by have:=of_decide_eq_false H;omega
 refine aE 13 rfl ?_
 have a:=Q [] b (by rw[y,List.drop_length];rfl)
 rw[List.append_nil] at a
 refine dm results123 (aT rfl) ⟨rfl,.ok (ids,b),b8 a,g,_,P,v,rfl,?_⟩
 show a6 fE 1 c _ (ids.map g)
 rw[←x]
 exact⟨A,cap,rfl,⟨al,af,by have:=L.2.2.1;omega,Y⟩,cz aq J⟩
 have q:i<cv.length:=by have:=of_decide_eq_true H;omega
 refine aE 7 rfl ?_
 obtain⟨aG,aP,aI,rfl,I,y⟩:=a5.get bM (aC bM ao S) i q
 have ae:=I
 obtain⟨aA,aH,rfl,_⟩:=fo I
 refine xp (a3 rfl rfl rfl q cZ) rfl (xp (cl rfl y rfl) rfl (an 8 rfl ?_))
 refine dP (mF T P ae (ar _ (fL q)) ((au.mono N).jN z v) (z.le p)) mG rfl rfl ?_ ?_
 rintro aQ ay aF W R ak ⟨rfl,r,O,a⟩
 rcases r with t|⟨m,ax⟩
 cases a
 obtain⟨k,b3,B,E,e,av⟩:=a
 cases e
 have o:=hV T (z.le p) (cR O)
 subst av
 refine fc jr rfl ?_
 intro aM aB D ai
 refine lZ _ (List.Perm.swap _ _ _) ?_
 refine jH (news:=[bP (k m)]) oz rfl rfl (cd rfl ai) (fun h=>by cases h) (fun u hu=>by simp at hu;subst hu;rfl) (by have:=L.2.2.1;omega) rfl rfl ?_
 intro U X V C Z aa ab ac
 rw[show bs.length+1=(bs++ [k m]).length by simp]
 replace B:=B.mono (D.trans C) (eC.refl _)
 refine an 5 rfl (xp (bA rfl rfl (by omega)) rfl (an 2 rfl ?_))
 refine dI (i+1,k,ax,V,W,ids++ [m],bs++ [k m],xs++ [bP (k m)],U,X) rfl rfl rfl [1] rfl ?_ ?_
 refine⟨by omega,o.1.wf,B,p.trans o.1.le,v.trans E p,(S.trans R).trans (D.trans C),N.trans ak,by simp[M],by rw[x,List.map_append,List.map_cons,List.map_nil,l3 F E],fun j n=> ?_,⟨aL.append (aL.sub fZ (R.trans (D.trans C)) J) (aL.single rfl),by simpa using ac,by simpa using Z,aa,ab⟩,fun s dD a=> ?_⟩
 rcases fM.1 n with n|n
 exact(F j n).le o.1.le
 rcases tO.1 n with rfl
 exact o.2
 have:=Q _ _ (Ih q (cR O) a)
 simpa using this
 show cv.length -(i+1)<cv.length -i;omega
 rintro ch ay c f _ _ ⟨rfl,r,am,a⟩
 rcases r with t|⟨aK,b⟩
 cases a
 refine br 5 rfl ?_
 exact(mH (cR am)).elim
 obtain⟨_,_,_,_,e,_⟩:=a
 cases e
theorem Bn:cr 200 false 1:=by unfold cr;kernel_rfl
theorem ns:cr 202 false 1:=by unfold cr;kernel_rfl
theorem tW:aF 117:=by unfold aF;kernel_rfl
abbrev Ii:=Nat→Nat→cU→Nat→Prop
def l5 (d wb:Nat) (rs:cU) (F:Nat):Prop:=∀{bl:Nat→Nat} {st:PS} {R:World} {X:Hx} {c:Nat},WF rs d st→dq d wb rs bl st R X→In d st c→st.ay≤F→cJ 113 [bP wb,bP (bl c)] [] R X (Out d wb rs bl st l4 (fun g=>(aB rs g).force c))
def rI (d wb:Nat) (rs:cU) (F:Nat):Prop:=∀{bl:Nat→Nat} {st:PS} {R:World} {X:Hx} {a:List Value} {e:Ex} {b:Value} {v:Env},WF rs d st→dq d wb rs bl st R X→Ex.Cs R e a→e.size≤100000→ia X.K bl b v→ed d st v→st.ay≤F→cJ 117 [bP wb,.agg a.toArray,b] [] R X (Out d wb rs bl st l4 (fun g=>(aB rs g).eval e v))
def ar (rs:cU) (s:ByteArray):Nat:=match rs s with|r::_=>r.ps.length|[]=>0
def rJ (d wb:Nat) (rs:cU) (F k:Nat):Prop:=∀{bl:Nat→Nat} {st:PS} {R:World} {X:Hx} {s:ByteArray} {a:Value} {l:List Nat},WF rs d st→dq d wb rs bl st R X→a6 fE 1 R a (l.map bl)→di d st l→l.length≤ar rs s+100000→l.length -ar rs s≤k→st.ay≤F→cJ 128 [bP wb,.string s,a] [] R X (Out d wb rs bl st l4 (fun g=>(aB rs g).func s l))
def pX (d wb:Nat) (rs:cU) (F k:Nat):Prop:=∀{bl:Nat→Nat} {st:PS} {R:World} {X:Hx} {c:Nat} {a:Value} {l:List Nat},WF rs d st→dq d wb rs bl st R X→In d st c→fg (st.at c)→a6 fE 1 R a (l.map bl)→di d st l→l.length≤100000→l.length≤k→st.ay≤F→cJ 125 [bP wb,bP (bl c),a] [] R X (Out d wb rs bl st l4 (fun g=>apply (aB rs g) c l))
def wL (d wb:Nat) (rs:cU) (F:Nat):Prop:=∀{bl:Nat→Nat} {st:PS} {R:World} {X:Hx} {s:ByteArray} {a b:Value} {v:Env} {l:List Nat},WF rs d st→dq d wb rs bl st R X→ia X.K bl a v→ed d st v→a6 fE 1 R b (l.map bl)→di d st l→l.length≤100000→st.ay≤F→cJ 124 [bP wb,.string s,a,b] [] R X (Out d wb rs bl st l4 (fun g=>name (aB rs g) s v l))
def Ij (G:Nat) (m:cT→Ex→Env→M Nat) (d wb:Nat) (rs:cU) (F:Nat):Prop:=∀{bl:Nat→Nat} {st:PS} {R:World} {X:Hx} {a:List Value} {e:Ex} {b:Value} {v:Env},WF rs d st→dq d wb rs bl st R X→Ex.Cs R e a→e.size≤100000→ia X.K bl b v→ed d st v→st.ay≤F→cJ G [bP wb,.agg a.toArray,b] [] R X (Out d wb rs bl st l4 (fun g=>m (aB rs g) e v))
def wM:Ii:=Ij 126 other
def Bo (d wb:Nat) (rs:cU) (F:Nat):Prop:=∀{bl:Nat→Nat} {st:PS} {R:World} {X:Hx} {a:List Value} {e:Ex} {b:Value} {v:Env},WF rs d st→dq d wb rs bl st R X→Ex.Cs R e a→e.size≤100000→e.ys.length=2→ia X.K bl b v→ed d st v→st.ay≤F→cJ 130 [bP wb,.agg a.toArray,b] [] R X (Out d wb rs bl st l4 (fun g=>oper (aB rs g) e v))
def Bp (d wb:Nat) (rs:cU) (F:Nat):Prop:=∀{bl:Nat→Nat} {st:PS} {R:World} {X:Hx} {a:List Value} {e:Ex} {b:Value} {v:Env},WF rs d st→dq d wb rs bl st R X→Ex.Cs R e a→e.size≤100000→ia X.K bl b v→ed d st v→st.ay≤F→cJ 136 [bP wb,.agg a.toArray,b] [] R X (Out d wb rs bl st (fun n _ u _ _ _=>u= .int .i64 n) (fun g=>gQ (aB rs g) e v))
def tX (d wb:Nat) (rs:cU) (F:Nat):Prop:=∀{bl:Nat→Nat} {st:PS} {R:World} {X:Hx} {b a:Value} {rules:List Rl} {l:List Nat},WF rs d st→dq d wb rs bl st R X→a6 Rl.Cs 11 R b rules→rules≠ []→(∀r∈rules,r.eo≤100000)→a6 fE 1 R a (l.map bl)→di d st l→st.ay≤F→cJ 133 [bP wb,b,a] [] R X (Out d wb rs bl st l4 (fun g=>ha (aB rs g) rules l))
theorem jO{m:Nat→M cW}{r:Mo.ei cW}(h:aG m ap r)(k:∀g,m g ap=some r→tm):tm:=by
 obtain⟨G,h⟩:=h
 exact k G (h G (a9 _))
theorem kU{d:Nat}{c a:Nat}(w:WF aD d ap)(b:In d ap c)(h:aG (fun g=>(aB aD g).force c) ap (.ok (a,aW))):Mo.Good aD d ap aW∧In d aW a∧fg (aW.at a):=jO h fun g e=>(eT.aB aD d g).force w b e
theorem Ik{d:Nat}(w:WF aD d ap)(b:ed d ap b3)(h:aG (fun g=>(aB aD g).eval aM b3) ap (.ok (ae,aW))):Mo.Good aD d ap aW∧In d aW ae∧fg (aW.at ae):=jO h fun g a=>(eT.aB aD d g).eval w b a
theorem gG{c:Nat}{k:Nat→PC→M cW}{r:Mo.ei cW}(h:aG (fun g=>k g (ap.at c)) ap r):aG (fun g=>(cell c).bind (k g)) ap r:=bB (b8 (m:=cell c) (r:= .ok (ap.at c,ap)) rfl) h
theorem tY{c:Nat}(h:aG (fun g=>jo (aB aD g) c) ap gh):aG (fun g=>(aB aD g).force c) ap gh:=aG.step h
theorem oA{c j:Nat}(h:ap.at c= .link j):aG (fun g=>(aB aD g).force c) ap (.ok (j,ap)):=tY (gG (by rw[h];exact fD))
theorem tZ{c:Nat}(h:fg (ap.at c)):aG (fun g=>(aB aD g).force c) ap (.ok (c,ap)):=tY (gG (by
 cases e:ap.at c with
 |dF a b=>rw[e] at h;exact h.elim
 |link a=>rw[e] at h;exact h.elim
 |_=>exact fD))
theorem Bq{c x:Nat}(h:ap.at c= .dF aM b3)(a:aG (fun g=>(aB aD g).eval aM b3) ap (.ok (x,aW))):aG (fun g=>(aB aD g).force c) ap (.ok (x,{aW with cells:=aW.cells.set c (.link x)})):=tY (gG (by
 rw[h]
 exact bB a (bB (b8 rfl) fD)))
theorem wN{c:Nat}{e:Ex}{v:Env}(h:ap.at c= .dF e v)(a:aG (fun g=>(aB aD g).eval e v) ap (.error hs)):aG (fun g=>(aB aD g).force c) ap (.error hs):=tY (gG (by
 rw[h]
 exact ej a))
theorem Il{d wb:Nat}(ai:rI d wb aD ae):l5 d wb aD ae:=by
 intro bl st R X c Q h C aj
 refine eh func113 rfl ntmps113 rfl fun w G ad=> ?_
 refine cG 7 rfl ?_
 refine eA (ι:=Nat) [0,4] 0 rfl (fun(a)=>(⟨[(1,.val (.pointer (some ⟨bl a,0,none⟩)))],[],[]⟩,R,X,In d st a∧(a=c∨(st.at c= .link a∧fg (st.at a))),if a=c then 1 else 0)) (c) rfl rfl rfl [] rfl ?_ ?_
 exact⟨C,.inl rfl⟩
 rintro a ⟨ab,B⟩
 show VX _ _ _ ⟨_,_,_⟩ R X
 obtain⟨⟨aM,f,g,i,l,n,o,x,z,n1,A,u⟩,y,s⟩:=h.cell a ab
 cases b:st.at a with
 |dF e v=>
  rw[b] at s
  simp only[dv] at s
  obtain⟨rfl,ap,aw,ao⟩:=s
  refine aE 6 rfl (bz (bw (cs:=[zI 0,f,g,i,l,n,o,x,z,n1,A,u]) rfl (.inr (y)) bG rfl) rfl (an 15 rfl (bz (bw (cs:=[zI 0,f,g,i,l,n,o,x,z,n1,A,u]) rfl (.inr (y)) bG rfl) rfl (an 7 rfl ?_))))
  replace B:a=c:=B.resolve_right (fun q=>by rw[b] at q;exact q.2)
  subst B
  refine dM mixed (fun k=>false) bH (fun _ _ h=>by cases h) fun aq=> ?_
  refine bm [0,1,2,3,5,6,7] rfl (by kernel_rfl) id (bp [4,8] (by kernel_rfl) rfl ?_)
  refine fT rfl (lX (cs:=[zI 0,f,g,i,l,n,o,x,z,n1,A,u]) (ds:=[f,g,i,l,n,o]) rfl (.inr (y)) cY rfl rfl) rfl ?_ ?_
  refine bp [8] (by kernel_rfl) rfl ?_
  refine fT rfl (bw (cs:=[zI 0,f,g,i,l,n,o,x,z,n1,A,u]) rfl (.inr (y)) Bn rfl) rfl ?_ bt
  refine ww 1 ?_
  rotate_left
  refine fT rfl (bw (cs:=[zI 0,f,g,i,l,n,o,x,z,n1,A,u]) rfl (.inr (y)) Bn rfl) rfl ?_ bt
  refine bp [4] (by kernel_rfl) rfl ?_
  refine fT rfl (lX (cs:=[zI 0,f,g,i,l,n,o,x,z,n1,A,u]) (ds:=[f,g,i,l,n,o]) rfl (.inr (y)) cY rfl rfl) rfl ?_ bt
  refine ww 1 ?_
  rotate_left
  any_goals
   refine uw 1 ?_
   refine bp [9] (by kernel_rfl) rfl ?_
   refine fY rfl (ai Q h ap aw ao (by have q:=Q.ok a C;rw[b] at q;exact q) aj) tW rfl rfl (fun _ _ h=>by cases h) ?_ ?_ ?_
   rintro aP az aA aC _ _ ⟨rfl,r,af,P⟩
   rcases r with t|⟨H,aN⟩
   cases P
   obtain⟨V,v,ag,W,e,av⟩:=P
   cases e
   have Y:=Ik Q (by have q:=Q.ok a C;rw[b] at q;exact q) af
   subst av
   obtain⟨⟨ax,I,J,K,L,M,N,O,Z,S,T,F⟩,ac,aK⟩:=ag.cell a (C.le Y.1.le)
   rw[W a C] at ac
   refine bm [10] rfl (by kernel_rfl) id (du (by kernel_rfl) (br 8 rfl ?_))
   refine ke (cs:=[ax,I,J,K,L,M,N,O,Z,S,T,F]) [zI 1,I,J,K,L,M,N,O,Z,S,T,F] rfl rfl ac bG rfl rfl rfl rfl ?_
   intro aF al ak
   refine an 2 rfl ?_
   refine ke (cs:=[zI 1,I,J,K,L,M,N,O,Z,S,T,F]) [zI 1,I,J,K,L,M,N,O,bP (V H),S,T,F] rfl rfl ak ns rfl rfl rfl rfl ?_
   intro aG am aJ
   refine an 9 rfl ?_
   have aL:iQ (st.at a) (.link H):=by rw[b];exact .inr ⟨_,rfl⟩
   have ah:=ag.set Y.1.wf (C.le Y.1.le) (p:= .link H) (c:=⟨zI 1,I,J,K,L,M,N,O,bP (V H),S,T,F⟩) ⟨rfl,rfl⟩
   subst am
   subst al
   refine dm results113 (aT rfl) ⟨rfl,.ok (H,_),Bq b af,V,_,?_,W,rfl,rfl⟩
   rw[W a C] at ah
   simp only[iM]
   exact ah
   rintro ch az aB aH _ _ ⟨rfl,r,au,P⟩
   rcases r with t|⟨aI,aO⟩
   cases P
   refine br 1 rfl ?_
   exact cL ⟨rfl,.error t,wN b au,rfl⟩
   obtain⟨_,_,_,_,e,_⟩:=P
   cases e
   exact bt
 |link j=>
  rw[b] at s
  simp only[dv] at s
  obtain⟨rfl,rfl⟩:=s
  replace B:a=c:=B.resolve_right (fun q=>by rw[b] at q;exact q.2)
  refine aE 6 rfl (bz (bw (cs:=[zI 1,f,g,i,l,n,o,x,bP (bl j),n1,A,u]) rfl (.inr (y)) bG rfl) rfl (an 11 rfl (bz (bw (cs:=[zI 1,f,g,i,l,n,o,x,bP (bl j),n1,A,u]) rfl (.inr (y)) ns rfl) rfl (an 3 rfl ?_))))
  subst B
  have U:=Q.ok a ab
  rw[b] at U
  have ar:j≠a:=fun q=>by
   subst q
   have aa:fg (st.at j):=U.2
   rw[b] at aa
   exact aa
  refine dI (j) rfl rfl rfl [] rfl ?_ ?_
  exact⟨U.1,.inr ⟨b,U.2⟩⟩
  simp only[ar,if_true,if_false];omega
 |unknown=>
  rw[b] at s
  simp only[dv] at s
  subst s
  refine aE 6 rfl (bz (bw (cs:=[zI 2,f,g,i,l,n,o,x,z,n1,A,u]) rfl (.inr (y)) bG rfl) rfl (an 15 rfl (bz (bw (cs:=[zI 2,f,g,i,l,n,o,x,z,n1,A,u]) rfl (.inr (y)) bG rfl) rfl (an 12 rfl ?_))))
  have E:fg (st.at a):=by rw[b];trivial
  rcases B with rfl|⟨D,_⟩
  exact dm results113 (aT rfl) ⟨rfl,.ok (_,st),tZ E,bl,_,h,g0 _,rfl,rfl⟩
  exact dm results113 (aT rfl) ⟨rfl,.ok (a,st),oA D,bl,_,h,g0 _,rfl,rfl⟩
 |num m=>
  rw[b] at s
  simp only[dv] at s
  obtain⟨rfl,rfl⟩:=s
  refine aE 6 rfl (bz (bw (cs:=[zI 3,f,g,i,l,n,o,x,z,zI m,A,u]) rfl (.inr (y)) bG rfl) rfl (an 15 rfl (bz (bw (cs:=[zI 3,f,g,i,l,n,o,x,z,zI m,A,u]) rfl (.inr (y)) bG rfl) rfl (an 12 rfl ?_))))
  have E:fg (st.at a):=by rw[b];trivial
  rcases B with rfl|⟨D,_⟩
  exact dm results113 (aT rfl) ⟨rfl,.ok (_,st),tZ E,bl,_,h,g0 _,rfl,rfl⟩
  exact dm results113 (aT rfl) ⟨rfl,.ok (a,st),oA D,bl,_,h,g0 _,rfl,rfl⟩
 |cw sm ay=>
  rw[b] at s
  simp only[dv] at s
  obtain⟨rfl,rfl,_⟩:=s
  refine aE 6 rfl (bz (bw (cs:=[zI 4,f,g,i,l,n,o,x,z,n1,.string sm,u]) rfl (.inr (y)) bG rfl) rfl (an 15 rfl (bz (bw (cs:=[zI 4,f,g,i,l,n,o,x,z,n1,.string sm,u]) rfl (.inr (y)) bG rfl) rfl (an 12 rfl ?_))))
  have E:fg (st.at a):=by rw[b];trivial
  rcases B with rfl|⟨D,_⟩
  exact dm results113 (aT rfl) ⟨rfl,.ok (_,st),tZ E,bl,_,h,g0 _,rfl,rfl⟩
  exact dm results113 (aT rfl) ⟨rfl,.ok (a,st),oA D,bl,_,h,g0 _,rfl,rfl⟩
 |fn sm ay=>
  rw[b] at s
  simp only[dv] at s
  obtain⟨rfl,rfl,_⟩:=s
  refine aE 6 rfl (bz (bw (cs:=[zI 5,f,g,i,l,n,o,x,z,n1,.string sm,u]) rfl (.inr (y)) bG rfl) rfl (an 15 rfl (bz (bw (cs:=[zI 5,f,g,i,l,n,o,x,z,n1,.string sm,u]) rfl (.inr (y)) bG rfl) rfl (an 12 rfl ?_))))
  have E:fg (st.at a):=by rw[b];trivial
  rcases B with rfl|⟨D,_⟩
  exact dm results113 (aT rfl) ⟨rfl,.ok (_,st),tZ E,bl,_,h,g0 _,rfl,rfl⟩
  exact dm results113 (aT rfl) ⟨rfl,.ok (a,st),oA D,bl,_,h,g0 _,rfl,rfl⟩
theorem Br:aF 55:=by unfold aF;kernel_rfl
theorem Im:aF 127:=by unfold aF;kernel_rfl
theorem Io:aF 134:=by unfold aF;kernel_rfl
theorem Bs:prog.underlying 201=some (.slice 202):=by kernel_rfl
section
variable{C:er}{ops:Array Oper}{Q:Exit→Act→Wd→Prop}{rest:List Oper}{S:St}{R:Wd}{d:Nat}{ty:TypeId}{pos:String}{af:Array Edge}{K:Nat→Bool}
theorem Bt{x:Operand}{n c:Nat}(f:ev S x=some (.val (.slice aA n c)))(e:prog.underlying aH=some (.slice ci)):bO K S R (.call {callee:= .builtin .cap,args:=#[x],argTypes:=#[aH]}) ty (.val (zI c)):=
 bO.of fun ad a W dst pos af g d h=>by
  have b:=d.eval f
  simp only[AV.den] at b
  simp[execOp,resolve,invoke,builtin,b,Builtin.cap_,run_underlying e,goInt,Result.andThen]
theorem pY{x y:Operand}{n c:Nat}{b:Bool}(f:ev S x=some (.val (.slice aA n c)))(g:ev S y=some (.val (zS)))(a:prog.underlying aH=some (.slice Ip))(e:aA.isNone=b):bO K S R (.binOp .eql aH x y ci) ty (.val (.bool b)):=by
 subst e
 refine gV f g (fun W=> ?_)
 have d:(eqGuard .eql aH x y (.slice aA n c) (zS)).run prog W= .ok () W:=by
  simp[eqGuard,Program.eqGuardType,a,go_sem]
 rw[Sem.run_bind,d]
 exact Lib.run_eql_slice_nil W aH Ip aA n c 0 0 a
theorem Rel.Bu(h:Rel C S R a0 cj ah)(g:iG ah bR)(e size cap:Nat)(f:Array Vl)(q:f.size=cap*size)(n:cap≤maxLen)(m:bR.heap[ah.heap.size]?=some (.cells f e (0,0))):
 Rel C {S with rows:=⟨.slice (some ⟨ah.heap.size,0,none⟩) 0 cap,0,[],e,size⟩::S.rows} R a0 cj bR:=by
 have c:=h.own.k5 g
 refine⟨h.size,h.defers,h.slot,h.lt,⟨c.box,c.inj,?_,?_,?_,?_⟩,h.cg.k5 g,h.fO,?_,h.nb,h.fP⟩
 ·intro r a
  rcases dX.1 a with rfl|a
  ·exact⟨by simp,.inr ⟨ah.heap.size,cap,f,rfl,Nat.zero_le _,m,Nat.zero_le _,n,q,by simp⟩⟩
  ·exact c.row r a
 ·intro r a k i
  rcases dX.1 a with rfl|a
  ·simp only[Value.ownBlock]
   intro e1
   injection e1 with e1
   have:=h.own.ii i
   omega
  ·exact c.apart r a k i
 ·refine List.pairwise_cons.2 ⟨fun s p b d=> ?_,c.rows⟩
  simp only[Value.ownBlock,Option.some.injEq] at d
  subst d
  intro e1
  have:=iH (h.own.row s p) e1
  omega
 ·intro b o u hu
  obtain⟨j,l,h3⟩:=c.b9 b o u hu
  refine⟨j,l,fun r a e1=> ?_⟩
  rcases dX.1 a with rfl|a
  ·simp only[Value.ownBlock,Option.some.injEq] at e1
   subst e1
   have:=World.block_lt_of_cell? ah _ (h.own.b9 _ _ _ hu).1
   simp only at this
   omega
  ·exact h3 r a e1
 ·intro r a b d
  rcases dX.1 a with rfl|a
  ·simp only[Value.ownBlock,Option.some.injEq] at d
   subst d
   exact .inl h.cg.size
  ·exact h.rowAt r a b d
theorem Bv(h:c7 ae ao aX)(l:d<C.N):jA C S R (some d) (.buildSlice ae 0 #[]) ty fun S' R'=>∃g,S'={S with bW:=(d,.val (.slice (some ⟨g,0,none⟩) 0 0))::S.bW,rows:=⟨.slice (some ⟨g,0,none⟩) 0 0,0,[],ao,aX⟩::S.rows}∧R'=R:=by
 intro ad a W pos af j m
 unfold c7 o4 at h
 simp only[Bool.and_eq_true] at h
 obtain⟨b,c⟩:=h
 cases hu:prog.underlying ae with
 |none=>rw[hu] at b;cases b
 |some D=>
  rw[hu] at b
  cases D with
  |slice e=>
   simp only[beq_iff_eq] at b
   subst b
   cases f:prog.info? e with
   |none=>rw[f] at c;cases c
   |some i=>
    rw[f] at c
    simp only[Bool.and_eq_true,beq_iff_eq,bne_iff_ne,decide_eq_true_eq] at c
    obtain⟨⟨⟨_,q⟩,_⟩,_⟩:=c
    obtain⟨_,r⟩:=Option.isSome_iff_exists.1 q
    have p:(execOp a.eval ⟨some d,.buildSlice ae 0 #[],ty,pos,af,j⟩).run prog W= .ok (.value (.slice (some ⟨W.heap.size,0,none⟩) 0 0)) (W.alloc (.cells #[] e)):=by
     simp[execOp,Instr.buildSlice,run_underlying hu,sizeOf,typeInfo,f,r,zeroValue,Result.andThen,newObj,go_sem]
     rfl
    have n:=m.Bu (iG.alloc W (.cells #[] e)) e aX 0 #[] (by simp) (by unfold maxLen;omega) (heap_alloc_new W _)
    exact⟨_,_,a.put (some d) (.slice (some ⟨W.heap.size,0,none⟩) 0 0),p,.inl ⟨_,rfl,rfl⟩,_,R,ad,⟨W.heap.size,rfl,rfl⟩,Sub.refl R,n.put (x:= .val (.slice (some ⟨W.heap.size,0,none⟩) 0 0)) l (fun k o ao=>by cases ao),fun _ _=>rfl⟩
  |_=>cases b
theorem Bw{rw:List bU}(b:c7 ae ao aX)(a:Nat.blt d C.N=true)(k:∀g,VL C ops Q rest ⟨(d,.val (.slice (some ⟨g,0,none⟩) 0 0))::bu,aS,⟨.slice (some ⟨g,0,none⟩) 0 0,0,[],ao,aX⟩::rw⟩ R):
 VL C ops Q (⟨some d,.buildSlice ae 0 #[],ty,pos,af,none⟩::rest) ⟨bu,aS,rw⟩ R:=by
 refine nT (Bv (S:=⟨bu,aS,rw⟩) b (dn a)) ?_
 rintro S' R' ⟨g,rfl,rfl⟩ _
 exact k g
theorem Iq{n:Nat}{x y:Operand}(v:dO ae aX eO wO)(w:prog.underlying ao=some (.int By))(A:ev S x=some (.val (zS)))(B:ev S y=some (.val (.int fr (n:Int))))(c:0<n)(r:n≤10000000)(l:wO≤1000)(u:0<eO)(m:d<C.N):
 jA C S R (some d) (.call {callee:= .builtin .append,args:=#[x,y],argTypes:=#[ae,ao]}) ty fun S' R'=>∃g cap,S'={S with bW:=(d,.val (.slice (some ⟨g,0,none⟩) n cap))::S.bW,rows:=⟨.slice (some ⟨g,0,none⟩) 0 cap,0,[],aX,eO⟩::S.rows}∧R'=R∧n≤cap∧cap≤9223372036854775807:=by
 intro ad a W pos af D b
 have e1:=b.eval A
 have e2:=b.eval B
 simp only[AV.den] at e1 e2
 obtain⟨i,z,e,f,h3,k,_,h,j⟩:=v.spec
 subst h j
 have t:=Lib.run_append_nil_zeros (P:=prog) W ae ao ty aX i z fr By e w f h3 n c u (by omega) (by
  have:n*i.bytes≤10000000*1000:=Nat.mul_le_mul r l
  omega)
 have p:=grownCap_ge W n 0 aX
 have hle:=grownCap_le_maxLen W n 0 aX (by unfold maxLen;omega)
 have g:iG W (W.drew.alloc (.cells (Builtin.zeroCells z.cells n++Builtin.zeroCells z.cells (grownCap W n 0 aX -n)) aX)):=⟨rfl,rfl,rfl,by rw[World.size_alloc];exact Nat.le_succ _,fun fr q=>heap_alloc_old W.drew _ q⟩
 have s:=b.Bu g aX i.size (grownCap W n 0 aX) (Builtin.zeroCells z.cells n++Builtin.zeroCells z.cells (grownCap W n 0 aX -n)) (by
  simp only[Array.size_append,size_zeroCells,k,←Nat.add_mul]
  congr 1
  omega) hle (heap_alloc_new W.drew _)
 refine⟨.value (.slice (some ⟨W.heap.size,0,none⟩) n (grownCap W n 0 aX)),_,a.put (some d) (.slice (some ⟨W.heap.size,0,none⟩) n (grownCap W n 0 aX)),?_,.inl ⟨_,rfl,rfl⟩,_,R,ad,⟨W.heap.size,grownCap W n 0 aX,rfl,rfl,p,by unfold maxLen at hle;omega⟩,Sub.refl R,s.put (x:= .val (.slice (some ⟨W.heap.size,0,none⟩) n (grownCap W n 0 aX))) m (fun fr o aX=>by cases aX),fun _ _=>rfl⟩
 simp only[execOp,resolve,invoke,builtin,Sem.run_bind,Sem.run_pure,Result.andThen_ok,List.map_toArray,List.map_cons,List.map_nil,e1,e2,t]
theorem Ir{rw:List bU}{n:Nat}{x y:Operand}(j:dO ae aX eO wO)(k:prog.underlying ao=some (.int By))(l:ev ⟨bu,aS,rw⟩ x=some (.val (zS)))(m:ev ⟨bu,aS,rw⟩ y=some (.val (.int fr (n:Int))))(a:0<n)(h:n≤10000000)(e:Nat.ble wO 1000=true)(i:Nat.blt 0 eO=true)(f:Nat.blt d C.N=true)
 (o:∀g cap,n≤cap→cap≤9223372036854775807→VL C ops Q rest ⟨(d,.val (.slice (some ⟨g,0,none⟩) n cap))::bu,aS,⟨.slice (some ⟨g,0,none⟩) 0 cap,0,[],aX,eO⟩::rw⟩ R):
 VL C ops Q (⟨some d,.call {callee:= .builtin .append,args:=#[x,y],argTypes:=#[ae,ao]},ty,pos,af,none⟩::rest) ⟨bu,aS,rw⟩ R:=by
 refine nT (Iq (S:=⟨bu,aS,rw⟩) j k l m a h (Nat.le_of_ble_eq_true e) (dn i) (dn f)) ?_
 rintro S' R' ⟨g,cap,rfl,rfl,b,c⟩ _
 exact o g cap b c
theorem Is(g cap:Nat):sliced (some ⟨g,0,none⟩) 0 0 cap 1= .slice (some ⟨g,0,none⟩) 0 cap:=by
 unfold sliced
 simp[kp]
end
theorem It(h:a6 Ex.Cs 6 ah az cv):bd 127 [az] ah (fun v R'=>a6 Ex.Cs 6 R' v cv):=by
 obtain⟨A,cap,rfl,hh,m⟩:=h
 refine b5 func127 rfl ntmps127 rfl rfl fun w G ad=> ?_
 cases A with
 |none=>
  refine sV 9 rfl (vp (pY (b:=true) rfl rfl zg rfl) rfl (rL 10 rfl ?_))
  have l:cv=[]:=mR (by have:=hh.1;have:=hh.2.2.2 rfl;omega)
  subst l
  exact cH results127 (aT rfl) ⟨rfl,none,0,rfl,⟨a9 _,by decide,by decide,fun _=>rfl⟩,ew _⟩
 |some a=>
  obtain⟨xs,o,c⟩:=m
  refine sV 9 rfl (vp (pY (b:=false) rfl rfl zg rfl) rfl (rL 7 rfl ?_))
  refine Bw cZ rfl ?_
  intro g
  refine rL 1 rfl ?_
  refine gW (news:=xs) n8 rfl rfl o (fun h=>by cases h) (aL.one bM c) (by have:=hh.2.2.1;omega) rfl rfl ?_
  intro d e p n f i j k
  refine rL 4 rfl ?_
  rw[Nat.zero_add] at*
  exact cH results127 (aT rfl) ⟨rfl,d,e,rfl,⟨f,i,hh.2.2.1,j⟩,cz (by simpa using k) (aL.sub bM n c)⟩
theorem Iu(h:a6 dU 1 ah az cC):bd 55 [az] ah (fun v R'=>a6 dU 1 R' v cC):=by
 obtain⟨A,cap,rfl,hh,m⟩:=h
 refine b5 func55 rfl ntmps55 rfl rfl fun w G ad=> ?_
 cases A with
 |none=>
  refine sV 9 rfl (vp (pY (b:=true) rfl rfl tv rfl) rfl (rL 10 rfl ?_))
  have l:cC=[]:=mR (by have:=hh.1;have:=hh.2.2.2 rfl;omega)
  subst l
  exact cH results55 (aT rfl) ⟨rfl,none,0,rfl,⟨a9 _,by decide,by decide,fun _=>rfl⟩,ew _⟩
 |some a=>
  obtain⟨xs,o,c⟩:=m
  refine sV 9 rfl (vp (pY (b:=false) rfl rfl tv rfl) rfl (rL 7 rfl ?_))
  refine Bw gE rfl ?_
  intro g
  refine rL 1 rfl ?_
  refine gW (news:=xs) om rfl rfl o (fun h=>by cases h) (aL.one cP c) (by have:=hh.2.2.1;omega) rfl rfl ?_
  intro d e p n f i j k
  refine rL 4 rfl ?_
  rw[Nat.zero_add] at*
  exact cH results55 (aT rfl) ⟨rfl,d,e,rfl,⟨f,i,hh.2.2.1,j⟩,cz (by simpa using k) (aL.sub cP n c)⟩
theorem Iv(n:Nat)(d:n≤10000000):Spec 134 [.val (zS),.val (zI (n:Int))] [] [] ah (fun v _ ts R'=>∃A cap,v= .slice A 0 cap∧ts=[⟨.slice A 0 cap,0,[],202,1⟩]∧cap≤9223372036854775807∧(A=none→cap=0)):=by
 refine sM (nb:=0) func134 rfl ntmps134 (hP rfl) rfl rfl fun w G ad=> ?_
 refine gN 202 1 ?_
 refine sV 12 rfl ?_
 cases b:(decide (((n:Nat):Int)<0))
 refine rV 8 rfl (vp (Bt rfl Bs) rfl (rL 3 rfl (vp (h0 (c:=((n:Nat):Int)) rfl rfl (by omega) (by omega) (by omega)) rfl (rL 9 rfl ?_))))
 cases a:(decide (((n:Nat):Int)>0))
 refine rV 10 rfl ?_
 exact dN results134 (aT rfl) (List.Sublist.refl _) ⟨none,0,rfl,rfl,by decide,fun _=>rfl⟩
 have e:=of_decide_eq_true a
 refine rV 4 rfl (vp (Bt rfl Bs) rfl (vp (pA (i:=0) rfl rfl (a9 _) jr rfl) rfl (rL 1 rfl ?_)))
 refine Fq [] (eH _) ?_
 refine Ir oz (by kernel_rfl:prog.underlying 3=some (.int .i64)) rfl rfl (by omega) d rfl rfl rfl ?_
 intro g cap _ a
 refine rL 2 rfl (vp (pA (i:=0) rfl rfl (b2 _) jr (Is g cap)) rfl (rL 10 rfl ?_))
 exact dN results134 (aT rfl) (List.Sublist.refl _) ⟨(some ⟨g,0,none⟩),cap,rfl,rfl,a,fun h=>by cases h⟩
 exact absurd (of_decide_eq_true b) (by omega)
theorem gH:cr 201 false 1:=by unfold cr;kernel_rfl
theorem ua:c7 247 201 1:=by unfold c7;kernel_rfl
theorem Bz:aF 129:=by unfold aF;kernel_rfl
def wP (R:World) (bs:List Nat) (c:List Value):Prop:=∃v,c=[v]∧a6 fE 1 R v bs
theorem ub:eR wP 1:=by
 refine⟨fun h c=> ?_,fun h=> ?_,fun h u hu=> ?_⟩
 ·obtain⟨v,a,b⟩:=h;exact⟨v,a,a6.sub fZ b c⟩
 ·obtain⟨v,rfl,-⟩:=h;rfl
 ·obtain⟨v,rfl,A,cap,rfl,-⟩:=h
  simp at hu
  subst hu
  rfl
def l6 (ls:List (List Nat)) (i:Nat):Nat:=(ls.take i).flatten.length
theorem BB{i:Nat}(h:i<e8.length):l6 e8 (i+1)=l6 e8 i+e8[i].length:=by
 unfold l6
 rw[List.take_succ_eq_append_getElem h,List.flatten_append,List.length_append]
 simp
theorem Iw{i:Nat}(h:i<e8.length):(e8.take (i+1)).flatten=(e8.take i).flatten++e8[i]:=by
 rw[List.take_succ_eq_append_getElem h,List.flatten_append]
 simp
theorem Ix(ls:List (List Nat))(i:Nat):l6 ls i≤ls.flatten.length:=by
 unfold l6
 have h:ls.flatten=(ls.take i).flatten++(ls.drop i).flatten:=by rw[←List.flatten_append,List.take_append_drop]
 rw[h,List.length_append]
 omega
theorem BC(h:a6 wP 1 ah az e8)(ac:e8.flatten.length≤1000000):bd 129 [az] ah (fun v R'=>a6 fE 1 R' v e8.flatten):=by
 obtain⟨Al,dA,rfl,P,p⟩:=h
 have hlen:=P.2.2.1
 have hle:=Ix e8
 refine b5 func129 rfl ntmps129 rfl rfl fun w G ad=> ?_
 refine sV 19 rfl ?_
 refine lK (ι:=Nat) [0,2,9,10] 0 rfl (fun(i)=>(⟨[(3,.val (zI ((l6 e8 i:Nat):Int))),(11,.val (zI (i:Nat)))],[],[]⟩,ah,i≤e8.length,e8.length -i)) (0) rfl rfl [] rfl ?_ ?_
 exact b2 _
 rintro i Q
 show V _ _ _ ⟨_,_,_⟩ ah
 refine rV 6 rfl ?_
 cases k:(decide (((i:Nat):Int)<((e8.length:Nat):Int)))
 have b:i=e8.length:=by have:=of_decide_eq_false k;omega
 refine rV 9 rfl ?_
 refine uY (S:=⟨_,_,[]⟩) (ts:=[]) (rs:=[]) (Iv (l6 e8 i) (by have:=hle i;omega)) Io rfl rfl (dn rfl) ?_
 rintro v _ x ⟨t,B,rfl,rfl,o⟩ U
 refine rL 12 rfl ?_
 refine lK (ι:=Nat×Wd×List Nat×LV×OA×Nat) [0,2,25,26] 0 rfl (fun(i,d,bs,xs,A,cap)=>(⟨[(6,.val (.slice A bs.length cap)),(27,.val (zI (i:Nat)))],[],[⟨.slice A bs.length cap,bs.length,xs,202,1⟩]⟩,d,i≤e8.length∧Sub ah d∧bs=(e8.take i).flatten∧dL fE 1 d A bs cap xs,e8.length -i)) (0,x,[],[],t,B) rfl rfl [1] rfl ?_ ?_
 exact⟨Nat.zero_le _,U,by simp,aL.nil,⟨rfl,.inl rfl⟩,Nat.zero_le _,o.1,o.2⟩
 rintro⟨i,d,bs,xs,A,cap⟩ ⟨Q,q,e,⟨m,W,R,N,H⟩⟩
 show V _ _ _ ⟨_,_,_⟩ d
 refine rV 6 rfl ?_
 cases l:(decide (((i:Nat):Int)<((e8.length:Nat):Int)))
 have b:i=e8.length:=by have:=of_decide_eq_false l;omega
 refine rV 13 rfl ?_
 have f:bs=e8.flatten:=by rw[e,b,List.take_length]
 exact cH results129 (aT rfl) ⟨rfl,A,cap,by rw[f],⟨by rw[←f];exact R,N,by omega,H⟩,by rw[←f];exact cz W m⟩
 have a:i<e8.length:=by have:=of_decide_eq_true l;omega
 refine rV 7 rfl ?_
 obtain⟨z,Z,D,rfl,⟨aa,rfl,u,C,rfl,O,T⟩,b⟩:=a5.get ub (aC ub p q) i a
 have g:=b 0 _ rfl
 obtain⟨r,X,n⟩:=T
 refine vp (a3 rfl rfl rfl a ua) rfl (vp (dT rfl gH g) rfl (rL 6 rfl ?_))
 have F:=hle (i+1)
 rw[BB a] at F
 have ab:bs.length=l6 e8 i:=congrArg List.length e
 refine gW (news:=r) oz rfl rfl X O.2.2.2 (aL.one fZ n) (by omega) rfl rfl ?_
 intro s E y j K L I J
 rw[show bs.length+e8[i].length=(bs++e8[i]).length by simp]
 refine rL 5 rfl (vp (bA rfl rfl (by omega)) rfl (rL 2 rfl ?_))
 refine dR (i+1,y,bs++e8[i],xs++r,s,E) rfl rfl [1] rfl ?_ ?_
 refine⟨by omega,q.trans j,by rw[e,Iw a],aL.append (aL.sub fZ j m) (aL.sub fZ j n),by simpa using J,by simpa using K,L,I⟩
 show e8.length -(i+1)<e8.length -i;omega
 have a:i<e8.length:=by have:=of_decide_eq_true k;omega
 refine rV 7 rfl ?_
 obtain⟨z,Z,D,rfl,⟨aa,rfl,u,C,rfl,_⟩,b⟩:=a5.get ub p i a
 have g:=b 0 _ rfl
 refine vp (a3 rfl rfl rfl a ua) rfl (vp (dT rfl gH g) rfl (rL 8 rfl ?_))
 have Y:=BB a
 have ae:=hle (i+1)
 refine vp (kv (c:=((l6 e8 (i+1):Nat):Int)) rfl rfl (by rw[Y];omega) (by omega) (by omega)) rfl (rL 9 rfl ?_)
 cases M:(decide (((l6 e8 (i+1):Nat):Int)<0))
 refine rV 5 rfl (vp (bA rfl rfl (by omega)) rfl (rL 2 rfl ?_))
 refine dR (i+1) rfl rfl [] rfl ?_ ?_
 show i+1≤e8.length;omega
 show e8.length -(i+1)<e8.length -i;omega
 exact absurd (of_decide_eq_true M) (by omega)
end Go.Proofs.YthnogncknmhgoaaGreat.Vm
namespace Go.Proofs.YthnogncknmhgoaaGreat.Prim
open ChangeShapes WideShapes ChangeAt RowKit
variable{ca hE:Bool}{bi c0:Int}{fr:IntKind}
def js (n:Int):Bool:=decide (-2147483647≤n∧n≤2147483647)
def oB (op:Int):Bool:=(op==4)||(op==5)
def oC (op:Int):Int:=if op=3 then 4 else if op=1∨op=2 then 3 else if op=4∨op=5 then 2 else 0
theorem BD(h:ca=hE):Ending.returned (.bool ca)= .returned (.bool hE):=by rw[h]
theorem BE(h:bi=c0):Ending.returned (.int fr bi)= .returned (.int fr c0):=by rw[h]
theorem l7(n:Int)(w:Wd):Calls prog 144 #[.int .i64 n] w fun e a=>e= .returned (.bool (js n))∧w=a:=by
 go_enter func144,ntmps144
 go_wp2_with fail
 all_goals
  go_ret
  exact⟨BD (by simp[js];omega),rfl⟩
theorem Iy(n:Int)(w:Wd):Calls prog 139 #[.int .i64 n] w fun e a=>e= .returned (.bool (oB n))∧w=a:=by
 go_enter func139,ntmps139
 go_wp2_with fail
 all_goals
  go_ret
  exact⟨BD (by simp_all [oB]),rfl⟩
theorem nt(n:Int)(w:Wd):Calls prog 143 #[.int .i64 n] w fun e a=>e= .returned (.int .i64 (oC n))∧w=a:=by
 go_enter func143,ntmps143
 go_wp2_with fail
 all_goals
  go_ret
  exact⟨BE (by simp_all [oC]),rfl⟩
def oD (b:Bool):Int:=if b then 1 else 0
theorem BF(b:Bool)(w:Wd):Calls prog 146 #[.bool b] w fun e a=>e= .returned (.int .i64 (oD b))∧w=a:=by
 go_enter func146,ntmps146
 go_wp2_with fail
 all_goals
  go_ret
  exact⟨BE (by simp_all [oD]),rfl⟩
def bX (n:Int):Int:=if js n then n else 0
def bE (n:Int):Int:=if js n then 0 else 7
theorem wQ(n:Int)(w:Wd):Calls prog 145 #[.int .i64 n] w fun e c=>e= .returned (.tuple #[.int .i64 (bX n),.int .i64 (bE n)])∧w=c:=by
 by_cases h:js n=true
 ·have a:bX n=n:=by simp[bX,h]
  have b:bE n=0:=by simp[bE,h]
  rw[a,b]
  clear a b
  go_enter func145,ntmps145
  go_wp2_with (go_at_call 144;refine(l7 _ _).mono ?_;rintro e c ⟨rfl,rfl⟩)
  go_ret2
  exact⟨rfl,rfl⟩
 ·have d:js n=false:=by simpa using h
  have a:bX n=0:=by simp[bX,h]
  have b:bE n=7:=by simp[bE,h]
  rw[a,b]
  clear a b
  go_enter func145,ntmps145
  go_wp2_with (go_at_call 144;refine(l7 _ _).mono ?_;rintro e c ⟨rfl,rfl⟩)
  go_ret2
  exact⟨rfl,rfl⟩
def g8 (op a b:Int):Bool:=!(oC op==0)&& js a&& js b
def oE (op a b:Int):Int:=
 if g8 op a b then(if op=1 then bX (a+b) else if op=2 then bX (a -b) else if op=3 then bX (a*b) else if op=4 then oD (a==b) else oD (decide (a<b))) else 0
def oF (op a b:Int):Int:=
 if g8 op a b then(if op=1 then bE (a+b) else if op=2 then bE (a -b) else if op=3 then bE (a*b) else 0) else 4
theorem Iz(op a b:Int)(w:Wd)(h:g8 op a b=false):Calls prog 137 #[.int .i64 op,.int .i64 a,.int .i64 b] w fun e c=>e= .returned (.tuple #[.int .i64 0,.int .i64 4])∧w=c:=by
 by_cases d:oC op=0
 ·have g:(oC op==0)=true:=by simp[d]
  clear h d
  go_enter func137,ntmps137
  go_wp2_with (first|(go_at_call 144;refine(l7 _ _).mono ?_;rintro e c ⟨rfl,rfl⟩)|(go_at_call 143;refine(nt _ _).mono ?_;rintro e c ⟨rfl,rfl⟩))
  go_ret2
  exact⟨rfl,rfl⟩
 ·have g:(oC op==0)=false:=by simp[d]
  by_cases f:js a=true
  ·have h3:js b=false:=by simpa[g8,g,f] using h
   clear h d
   go_enter func137,ntmps137
   go_wp2_with (first|(go_at_call 144;refine(l7 _ _).mono ?_;rintro e c ⟨rfl,rfl⟩)|(go_at_call 143;refine(nt _ _).mono ?_;rintro e c ⟨rfl,rfl⟩))
   go_ret2
   exact⟨rfl,rfl⟩
  ·have i:js a=false:=by simpa using f
   clear h d f
   go_enter func137,ntmps137
   go_wp2_with (first|(go_at_call 144;refine(l7 _ _).mono ?_;rintro e c ⟨rfl,rfl⟩)|(go_at_call 143;refine(nt _ _).mono ?_;rintro e c ⟨rfl,rfl⟩))
   go_ret2
   exact⟨rfl,rfl⟩
theorem IA(a:-2147483647≤bi)(b:bi≤2147483647)(c:-2147483647≤c0)(d:c0≤2147483647):-4611686014132420609≤bi*c0∧bi*c0≤4611686014132420609:=by
 have h:(bi*c0).natAbs≤2147483647*2147483647:=by
  rw[Int.natAbs_mul];exact Nat.mul_le_mul (by omega) (by omega)
 omega
theorem IB(op a b:Int)(w:Wd)(h:g8 op a b=true):Calls prog 137 #[.int .i64 op,.int .i64 a,.int .i64 b] w fun e c=>e= .returned (.tuple #[.int .i64 (oE op a b),.int .i64 (oF op a b)])∧w=c:=by
 have k:oE op a b=if op=1 then bX (a+b) else if op=2 then bX (a -b) else if op=3 then bX (a*b) else if op=4 then oD (a==b) else oD (decide (a<b)):=by simp[oE,h]
 have j:oF op a b=if op=1 then bE (a+b) else if op=2 then bE (a -b) else if op=3 then bE (a*b) else 0:=by simp[oF,h]
 rw[k,j]
 clear k j
 simp only[g8,Bool.and_eq_true,Bool.not_eq_true',] at h
 obtain⟨⟨v,p⟩,h3⟩:=h
 have q:-2147483647≤a∧a≤2147483647:=by simpa[js] using p
 have r:-2147483647≤b∧b≤2147483647:=by simpa[js] using h3
 obtain⟨l,m⟩:=q
 obtain⟨n,o⟩:=r
 obtain⟨x,y⟩:=IA l m n o
 by_cases d:op=1
 ·subst d
  go_enter func137,ntmps137
  go_wp2_with (first|(go_at_call 144;refine(l7 _ _).mono ?_;rintro e c ⟨rfl,rfl⟩)|(go_at_call 143;refine(nt _ _).mono ?_;rintro e c ⟨rfl,rfl⟩)|(go_at_call 145;refine(wQ _ _).mono ?_;rintro e c ⟨rfl,rfl⟩))
  go_ret2
  exact⟨rfl,rfl⟩
 by_cases f:op=2
 ·subst f
  clear d
  go_enter func137,ntmps137
  go_wp2_with (first|(go_at_call 144;refine(l7 _ _).mono ?_;rintro e c ⟨rfl,rfl⟩)|(go_at_call 143;refine(nt _ _).mono ?_;rintro e c ⟨rfl,rfl⟩)|(go_at_call 145;refine(wQ _ _).mono ?_;rintro e c ⟨rfl,rfl⟩))
  go_ret2
  exact⟨rfl,rfl⟩
 by_cases g:op=3
 ·subst g
  clear d f
  go_enter func137,ntmps137
  go_wp2_with (first|(go_at_call 144;refine(l7 _ _).mono ?_;rintro e c ⟨rfl,rfl⟩)|(go_at_call 143;refine(nt _ _).mono ?_;rintro e c ⟨rfl,rfl⟩)|(go_at_call 145;refine(wQ _ _).mono ?_;rintro e c ⟨rfl,rfl⟩))
  go_ret2
  exact⟨rfl,rfl⟩
 have s:(op==1)=false:=by simp[d]
 have t:(op==2)=false:=by simp[f]
 have u:(op==3)=false:=by simp[g]
 by_cases i:op=4
 ·subst i
  clear d f g s t u
  go_enter func137,ntmps137
  go_wp2_with (first|(go_at_call 144;refine(l7 _ _).mono ?_;rintro e c ⟨rfl,rfl⟩)|(go_at_call 143;refine(nt _ _).mono ?_;rintro e c ⟨rfl,rfl⟩)|(go_at_call 146;refine(BF _ _).mono ?_;rintro e c ⟨rfl,rfl⟩))
  go_ret2
  exact⟨rfl,rfl⟩
 have z:(op==4)=false:=by simp[i]
 simp only[d,f,g,i,if_false]
 clear d f g i
 go_enter func137,ntmps137
 go_wp2_with (first|(go_at_call 144;refine(l7 _ _).mono ?_;rintro e c ⟨rfl,rfl⟩)|(go_at_call 143;refine(nt _ _).mono ?_;rintro e c ⟨rfl,rfl⟩)|(go_at_call 146;refine(BF _ _).mono ?_;rintro e c ⟨rfl,rfl⟩))
 go_ret2
 exact⟨rfl,rfl⟩
theorem IC(op a b:Int)(w:Wd):Calls prog 137 #[.int .i64 op,.int .i64 a,.int .i64 b] w fun e c=>e= .returned (.tuple #[.int .i64 (oE op a b),.int .i64 (oF op a b)])∧w=c:=by
 cases h:g8 op a b
 ·have:=Iz op a b w h
  simpa[oE,oF,h] using this
 ·exact IB op a b w h
end Go.Proofs.YthnogncknmhgoaaGreat.Prim
namespace Go.Proofs.YthnogncknmhgoaaGreat.Vm
open ChangeShapes WideShapes ChangeAt RowKit bq Data Mo
variable{dw:Array MapEntry}{aY im:BA}{dj:eF}{b3:Env}{aM:Ex}{eN:Exit}{dy:Exit→Act→Wd→Prop}{bk:FuncId}{aJ:Hx}{aj:LV}{aV:List bU}{ae ao:Nat}{a0:Nat→Nat}{dZ:ka}{bI:St}{az:Vl}{ah:Wd}
theorem BG(h:ae≤5)(a b:Int):Prim.oE ae a b=(hq ae a b).1∧Prim.oF ae a b=(hq ae a b).2:=by
 have d:∀n,Prim.js n=fits n:=fun n=>by simp[Prim.js,fits,Bool.decide_and]
 rcases(show ae=0∨ae=1∨ae=2∨ae=3∨ae=4∨ae=5 by omega) with rfl|rfl|rfl|rfl|rfl|rfl<;>
  (cases c:fits a<;>cases hb:fits b<;>simp[Prim.oE,Prim.oF,Prim.g8,Prim.oC,hq,d,c,hb,Prim.bX,Prim.bE,bounded,Prim.oD]<;>(try split)<;>simp_all)
theorem ID(h:ae≤5)(a b:Int):bd 137 [.int .i64 (ae:Int),.int .i64 a,.int .i64 b] ah (fun v R'=>R'=ah∧v= .tuple #[.int .i64 (hq ae a b).1,.int .i64 (hq ae a b).2]):=by
 refine bd.y5 (eP:=fun v=>v= .tuple #[.int .i64 (hq ae a b).1,.int .i64 (hq ae a b).2]) fun w=>(Prim.IC ae a b w).mono ?_
 rintro e c ⟨rfl,rfl⟩
 rw[(BG h a b).1,(BG h a b).2]
 exact⟨Below.refl _ _,_,rfl,rfl⟩
theorem IE(op:Nat):bd 139 [.int .i64 (op:Int)] ah (fun v R'=>R'=ah∧v= .bool (Prim.oB op)):=by
 refine bd.y5 (eP:=fun v=>v= .bool (Prim.oB op)) fun w=>(Prim.Iy op w).mono ?_
 rintro e a ⟨rfl,rfl⟩
 exact⟨Below.refl _ _,_,rfl,rfl⟩
theorem BH:aF 122:=by unfold aF;kernel_rfl
theorem BI:aF 138:=by unfold aF;kernel_rfl
theorem ki(h:(aY.toList==im.toList)=true):aY=im:=by
 have a:aY.toList=im.toList:=by simpa using h
 rw[ByteArray.toList_eq,ByteArray.toList_eq] at a
 exact ByteArray.ext (Array.toList_inj.mp a)
theorem hW(h:(aY.toList==im.toList)=false):aY≠im:=by
 rintro rfl
 simp at h
theorem BJ(s:BA):bd 138 [.string s] ah (fun v R'=>R'=ah∧v=zI ((Mo.e7 s:Nat):Int)):=by
 refine b5 func138 rfl ntmps138 rfl rfl fun w G ad=> ?_
 refine sV 18 rfl ?_
 cases a:(s.toList==(⟨#[43]⟩:BA).toList)
 replace a:=hW a
 refine rV 7 rfl ?_
 cases b:(s.toList==(⟨#[45]⟩:BA).toList)
 replace b:=hW b
 refine rV 7 rfl ?_
 cases c:(s.toList==(⟨#[42]⟩:BA).toList)
 replace c:=hW c
 refine rV 7 rfl ?_
 cases d:(s.toList==(⟨#[61,61]⟩:BA).toList)
 replace d:=hW d
 refine rV 7 rfl ?_
 cases e:(s.toList==(⟨#[60]⟩:BA).toList)
 replace e:=hW e
 refine rV 10 rfl ?_
 exact dN results138 (aT rfl) (List.Sublist.refl _) ⟨rfl,rfl,by rw[show Mo.e7 s=0 by unfold Mo.e7;rw[if_neg a,if_neg b,if_neg c,if_neg d,if_neg e]];rfl⟩
 replace e:=ki e
 refine rV 9 rfl ?_
 exact dN results138 (aT rfl) (List.Sublist.refl _) ⟨rfl,rfl,by rw[show Mo.e7 s=5 by unfold Mo.e7;rw[if_neg a,if_neg b,if_neg c,if_neg d,if_pos e]];rfl⟩
 replace d:=ki d
 refine rV 9 rfl ?_
 exact dN results138 (aT rfl) (List.Sublist.refl _) ⟨rfl,rfl,by rw[show Mo.e7 s=4 by unfold Mo.e7;rw[if_neg a,if_neg b,if_neg c,if_pos d]];rfl⟩
 replace c:=ki c
 refine rV 9 rfl ?_
 exact dN results138 (aT rfl) (List.Sublist.refl _) ⟨rfl,rfl,by rw[show Mo.e7 s=3 by unfold Mo.e7;rw[if_neg a,if_neg b,if_pos c]];rfl⟩
 replace b:=ki b
 refine rV 9 rfl ?_
 exact dN results138 (aT rfl) (List.Sublist.refl _) ⟨rfl,rfl,by rw[show Mo.e7 s=2 by unfold Mo.e7;rw[if_neg a,if_pos b]];rfl⟩
 replace a:=ki a
 refine rV 9 rfl ?_
 exact dN results138 (aT rfl) (List.Sublist.refl _) ⟨rfl,rfl,by rw[show Mo.e7 s=1 by unfold Mo.e7;rw[if_pos a]];rfl⟩
theorem BK(z:Ex.Cs ah aM aj):bd 122 [.agg aj.toArray] ah (fun v R'=>∃ch o,v= .tuple #[.agg ch.toArray,o]∧Ex.Cs R' (bV aM) ch∧a6 Ex.Cs 6 R' o (cA aM)):=by
 obtain⟨a,f,ne,p,e,c⟩:=aM
 obtain⟨q,n,rfl,b,d⟩:=z
 replace d:=c9.1 d
 replace b:cF q p.length n:=b
 refine b5 func122 rfl ntmps122 rfl rfl fun w G ad=> ?_
 cases p with
 |nil=>
  simp only[List.length_nil] at b
  refine sV 14 rfl ?_
  cases m:(a !=4)
  refine ww 1 ?_
  rotate_left
  refine ww 1 ?_
  rotate_left
  any_goals
   refine uw 1 ?_
   refine rL 17 rfl ?_
   exact cB results122 (aK rfl rfl cY) (aT rfl) ⟨rfl,_,_,rfl,(de b d:Ex.Cs ah (.mk a f ne [] e c) _),a6.nil⟩
 |cons h r=>
  simp only[List.length_cons] at b
  obtain⟨s,D,t,rfl,j,A⟩:=a5.get bM d 0 (by simp)
  replace j:Ex.Cs ah h t:=j
  have x:=j
  obtain⟨E,H,rfl,_⟩:=fo x
  have y:a6 Ex.Cs 6 ah (sliced (some ⟨s,D,none⟩) 1 (r.length+1) n 6) r:=by
   have:=a6.drop (l:=h::r) bM (i:=1) b d (by simp)
   simpa using this
  refine sV 14 rfl ?_
  cases m:(a !=4)
  refine rL 7 rfl ?_
  cases u:((((r.length+1):Nat):Int)==0)
  refine rV 4 rfl ?_
  refine bZ mixed (fun k=>k==0) fun aq=> ?_
  refine bL [0,1] rfl (by kernel_rfl) id (vt 2 rfl (a3 (i:=0) rfl rfl rfl (Nat.succ_pos _) cZ) rfl (by kernel_rfl) id (vt 3 rfl (cl rfl A rfl) rfl (by kernel_rfl) id (bL [4,5] rfl (by kernel_rfl) id (vt 6 rfl (od (i:=1) rfl rfl (Nat.succ_le_succ (b2 _)) cZ rfl) rfl (by kernel_rfl) id (a7 [7] (by kernel_rfl) rfl ?_)))))
  refine dK rfl (It y) Im rfl rfl ?_ bf
  intro I F C B
  refine bL [1008,9] rfl (by kernel_rfl) id (bS (by kernel_rfl) (rD 2 rfl ?_))
  have g:a=4:=by simpa using m
  refine cB results122 (aK rfl rfl cY) (aT rfl) ⟨rfl,_,_,rfl,?_,?_⟩
  rw[show bV (.mk a f ne (h::r) e c)=h from if_pos g]
  exact j.sub C
  rw[show cA (.mk a f ne (h::r) e c)=r from if_pos g]
  exact B
  exact absurd u (by simp;omega)
  refine rL 17 rfl ?_
  have g:a≠4:=by simpa using m
  refine cB results122 (aK rfl rfl cY) (aT rfl) ⟨rfl,_,_,rfl,?_,?_⟩
  rw[show bV (.mk a f ne (h::r) e c)= .mk a f ne (h::r) e c from if_neg g]
  exact de b d
  rw[show cA (.mk a f ne (h::r) e c)=[] from if_neg g]
  exact a6.nil
theorem BL:aF 132:=by unfold aF;kernel_rfl
theorem IF:aF 141:=by unfold aF;kernel_rfl
theorem IG(a:ah.heap[ae]?=some (.map dw ao)):Calls prog 141 #[.map (some ae)] ah fun e b=>e= .returned (.map (some ah.heap.size))∧b=ah.alloc (.map dw ao):=by
 have hu:prog.underlying 200=some (.map 9 202):=by kernel_rfl
 have c:=fun ah=>run_eql_map_nil_sl (P:=prog) ah 200 9 202 (some ae) hu
 go_enter func141,ntmps141
 go_wp2
 rw[run_callFunc_extern func147 (by kernel_rfl) (by kernel_rfl) (by kernel_rfl) (e:=Extern.MapsClone.clone) (by kernel_rfl),run_maps_clone_sl ah 200 a]
 simp only[Result.andThen]
 rw[Oper.upon_value]
 go_wp2
 rw[run_typeAssert_map_sl _ 200 20 _ _ _ hu]
 simp only[Result.andThen]
 rw[Oper.upon_value]
 go_wp2
 go_ret
 exact⟨rfl,rfl⟩
theorem IH(h:∀(C:eF) (a:Act) (w:Wd),ck C ⟨[],[],aV⟩ ah aJ (fun _=>0) a w→Calls prog bk aj.toArray w (hU C dZ)):cJ bk aj aV ah aJ dZ:=by
 intro w f g
 exact h ⟨⟨0,w,ah,GX aJ.H aV,0,fun _=>0⟩,aJ.K⟩ ⟨#[],[]⟩ w ⟨⟨rfl,rfl,fun t x e=>(by cases e),fun t k o e=>(by cases e),f,⟨rfl,rfl,rfl,a9 _,fun _ _ _=>rfl,fun _ _ _ _ hu=> .inl hu,Sub.refl ah⟩,fun k d=>(by cases d),fun r i b c=> .inr (.inr ⟨r,i,c⟩),a9 _,fun _ d=>(by cases d)⟩,g,fun b c=> .inr (.inl c),fun b ob c _=> .inl c,fun b ob c=>c⟩
theorem II(e:aJ.K ae=some (.map dw ao)):cJ 141 [.map (some ae)] [] ah aJ (fun E ts R' X'=>ts=[]∧R'=ah∧∃g,E= .returned (.map (some g))∧aJ.K g=none∧aJ.H g=none∧X'=⟨aJ.K,aQ aJ.H g (.map dw ao)⟩):=by
 refine IH fun C a w b=>(IG (b.own.k _ _ e)).mono ?_
 rintro E W ⟨rfl,rfl⟩
 obtain⟨c,d,h3⟩:=b.alloc (.map dw ao)
 exact ou h3 (by simp) (List.Sublist.refl _) ⟨rfl,rfl,_,rfl,c,d,rfl⟩
theorem BM{i:Nat}:hc a0 (b3.up aY i)=gd (hc a0 b3) aY (bP (a0 i)):=by
 funext t
 unfold hc Env.up gd
 by_cases h:t=aY
 ·rw[if_pos h,if_pos h];rfl
 ·rw[if_neg h,if_neg h]
theorem BN{b:Nat}{ob:Obj}(c:aJ.H b=some ob)(k:DX dj dy eN bI ah ⟨aQ aJ.K b ob,gy aJ.H b⟩):DX dj dy eN bI ah aJ:=fun ad a W h=>k ad a W (h.freeze c)
theorem BO{R:Wd}{X:Hx}{bl:Nat→Nat}(o:ia X.K bl az b3)(s:BA)(i:Nat):cJ 132 [az,.string s,bP (bl i)] [] R X (fun E ts R' X'=>ts=[]∧R'=R∧X'.H=X.H∧eC X.K X'.K∧∃h,E= .returned h∧ia X'.K bl h (b3.up s i)):=by
 obtain⟨v,es,u,rfl,j,k⟩:=o
 refine eh func132 rfl ntmps132 rfl fun w G ad=> ?_
 refine cG 8 rfl ?_
 refine dP (II j) IF rfl rfl ?_ ?_
 rintro x p q r - -⟨rfl,rfl,g,e,n,m,rfl⟩
 cases e
 refine an 8 rfl ?_
 refine A2 (f:=hc bl b3) rfl rfl rfl (b0 _ _ _) k pW ?_
 rintro d c t l rfl
 refine an 9 rfl ?_
 refine BN (b:=g) (ob:= .map d c) (b0 _ _ _) ?_
 refine dm results132 (aT rfl) ⟨rfl,rfl,?_,?_,_,rfl,g,d,c,rfl,b0 _ _ _,by rw[BM];exact l⟩
 simp only[iM]
 exact j8 _ _ m
 intro b ob a
 exact(bh _ _ (fun e=>by subst e;rw[n] at a;cases a)).trans a
 rintro ch p R' X' _ _ ⟨_,_,g,e,_⟩
 cases e
end Go.Proofs.YthnogncknmhgoaaGreat.Vm
