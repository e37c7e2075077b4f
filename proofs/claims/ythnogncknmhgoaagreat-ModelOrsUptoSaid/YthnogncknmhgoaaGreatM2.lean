/- Lemmas for ModelOrs (3 of 15). No conditions. -/
import Derived.LoopN
import Derived.Test.YthnogncknmhgoaaGreatM1
import Derived.Test.YthnogncknmhgoaaGreatM0
set_option linter.all false
set_option maxRecDepth 100000
set_option maxHeartbeats 485000000
open Go.Proofs.Tryz
namespace Go.Proofs.YthnogncknmhgoaaGreat.Vm
open ChangeShapes WideShapes ChangeAt RowKit bq Data
variable{cy:AV}{cj:Act}{hY:Array (Nat×Operand)}{bQ:Array Bool}{qO:Array Bool→Nat→Bool}{ky:Array Edge}{dk:Array Oper}{ca:Bool}{eN:Exit}{il:HK}{aj bj:LV}{bu:List (Nat×AV)}{aS lF:List Bx}{aI:List Nat}{gb:List Oper}{aV o5:List bU}{ae ao:Nat}{dl:Nat→Bool}{a0:Nat→Nat}{cx:Op}{ea:Oper}{fB:Option Nat}{bI n6:St}{kx:String}{cW:Type}{aH ci:TypeId}{az:Vl}{ah:Wd}
inductive lJ where
 |th (y:Code)
 |bl (id:Nat)
 |fn (K:Act→World→Prop)
 |lp (body:Code) (n:Nat)
def eb:List lJ→(Exit→Act→World→Prop)→Exit→Act→World→Prop
 |[],Q=>Q
 | .th y::k,Q=>Exit.then (fun a w=>y.wp prog (eb k Q) a w) (eb k Q)
 | .bl id::k,Q=>Exit.inBlock id (eb k Q)
 | .fn K::k,Q=>Exit.then K (eb k Q)
 | .lp body n::k,Q=>Exit.then (Code.rounds prog body (eb k Q) n) (eb k Q)
inductive Cf where
 |V (c:Code)
 |L (ops:Array Oper) (l:List Oper)
 |D (e:Exit)
structure Cg where
 c:Cf
 k:List lJ
 sl:List (Nat×AV)
 bx:List Bx
section
variable{β:Type}
def o9 {α:Type}:List α→(List α→Option β)→Option β
 |[],f=>f []
 |a::l,f=>o9 l fun r=>f (a::r)
theorem qG{α:Type}:∀{l:List α} {f:List α→Option β},o9 l f=f l
 |[],f=>rfl
 |a::l,f=>by rw[o9,qG]
def nY:List Value→Nat→List Value→(List Value→Option β)→Option β
 |cs,0,[],f=>o9 cs f
 |c::cs,0,v::vs,f=>nY cs 0 vs fun r=>f (v::r)
 |c::cs,n+1,vs,f=>nY cs n vs fun r=>f (c::r)
 |[],_,_,_=>none
theorem vk:∀{cs:LV} {n:Nat} {vs:LV} {f:LV→Option β} {y:β},nY cs n vs f=some y→n+vs.length≤cs.length∧f (cs.take n++vs++cs.drop (n+vs.length))=some y
 |cs,0,[],f,y,h=>by rw[nY,qG] at h;simpa using h
 |c::cs,0,v::vs,f,y,h=>by
  rw[nY] at h
  have:=vk h
  simp only[List.take_zero,List.nil_append,Nat.zero_add] at this
  refine⟨by simp;omega,?_⟩
  simpa using this.2
 |c::cs,n+1,vs,f,y,h=>by
  rw[nY] at h
  have:=vk h
  refine⟨by simp;omega,?_⟩
  rw[←this.2]
  simp[Nat.add_right_comm]
 |[],0,v::vs,f,y,h=>by cases h
 |[],n+1,vs,f,y,h=>by cases h
def nZ:List Value→Nat→Nat→(List Value→Option β)→Option β
 |_,0,0,f=>f []
 |c::cs,0,m+1,f=>nZ cs 0 m fun r=>f (c::r)
 |c::cs,n+1,m,f=>nZ cs n m f
 |[],_,_,_=>none
theorem vl:∀{cs:LV} {n m:Nat} {f:LV→Option β} {y:β},nZ cs n m f=some y→((cs.drop n).take m).length=m∧f ((cs.drop n).take m)=some y
 |cs,0,0,f,y,h=>by rw[nZ] at h;simpa using h
 |c::cs,0,m+1,f,y,h=>by
  rw[nZ] at h
  have:=vl h
  simp only[List.drop_zero] at this⊢
  exact⟨by rw[List.take_succ_cons,List.length_cons,this.1],by rw[List.take_succ_cons];exact this.2⟩
 |c::cs,n+1,m,f,y,h=>by
  rw[nZ] at h
  have:=vl h
  simpa using this
 |[],0,m+1,f,y,h=>by cases h
 |[],n+1,m,f,y,h=>by cases h
def m1:List Bx→Nat→Nat→List Value→(List Bx→Option β)→Option β
 |(T,cs)::bs,0,off,vs,f=>nY cs off vs fun r=>o9 bs fun a=>f ((T,r)::a)
 |b::bs,k+1,off,vs,f=>m1 bs k off vs fun r=>f (b::r)
 |[],_,_,_,_=>none
theorem n0:∀{bs:List Bx} {k off:Nat} {vs:LV} {f:List Bx→Option β} {y:β},m1 bs k off vs f=some y→∃T cs,bs[k]?=some (T,cs)∧off+vs.length≤cs.length∧f (bs.set k (T,cs.take off++vs++cs.drop (off+vs.length)))=some y
 |(T,cs)::bs,0,off,vs,f,y,h=>by
  rw[m1] at h
  obtain⟨c,a⟩:=vk h
  rw[qG] at a
  exact⟨T,cs,rfl,c,a⟩
 |b::bs,k+1,off,vs,f,y,h=>by
  rw[m1] at h
  obtain⟨T,cs,c,a,h3⟩:=n0 h
  exact⟨T,cs,by simpa using c,a,by simpa using h3⟩
 |[],_,_,_,_,_,h=>by cases h
def pb:List Nat:=[0,1,2,3,4,5,6,7,8,9,10,11,12,13,14,15,16,17,18,19,20,21,22,23,24,25,26,27,28,29,30]
def n2:List Bx→List Nat→Bx→(Nat→List Bx→Option β)→Option β
 |[],n::_,b,f=>f n [b]
 |c::bs,_::a,b,f=>n2 bs a b fun m r=>f m (c::r)
 |_,[],_,_=>none
theorem pc:∀{bs:List Bx} {n:Nat} {d:List Nat} {b:Bx} {f:Nat→List Bx→Option β} {y:β},(∀j m,d[j]?=some m→m=n+j)→n2 bs d b f=some y→f (n+bs.length) (bs++ [b])=some y
 |[],n,m::d,b,f,y,a,h=>by
  rw[n2] at h
  rw[a 0 m rfl] at h
  exact h
 |c::bs,n,m::d,b,f,y,a,h=>by
  rw[n2] at h
  have:=pc (n:=n+1) (fun j i e=>by have:=a (j+1) i (by simpa using e);omega) h
  rw[←this]
  simp[Nat.add_assoc,Nat.add_comm 1]
 |[],n,[],b,f,y,a,h=>by cases h
 |c::bs,n,[],b,f,y,a,h=>by cases h
theorem qH:∀j m,pb[j]?=some m→m=0+j:=by
 intro j m h
 have:∀j:Fin 31,pb[j.1]?=some j.1:=by decide
 by_cases b:j<31
 ·have a:=this ⟨j,b⟩;simp only at a;rw[a] at h;cases h;omega
 ·rw[List.getElem?_eq_none (by simp[pb];omega)] at h;cases h
end
def n3 (v:Value):Bool:=match v with
 | .agg _=>false
 |v=>v.oneCell'
theorem vm(h:n3 az=true):az.cells=#[az]∧az.oneCell'=true:=by
 unfold n3 at h
 split at h
 ·cases h
 ·rename_i a
  refine⟨?_,h⟩
  cases az<;>first|rfl|exact absurd rfl (a _)
section
variable{S:St}{R:Wd}{ty:TypeId}{K:Nat→Bool}
theorem FE{x:Operand}(b:ev S x=some (.ptr ae ao)):bO K S R (.nilCheck x) ty (.ptr ae ao):=by
 refine⟨fun h i e=> ?_,fun ad a W dst pos af f d g=> ?_⟩
 ·cases e
  cases x with
  |tmp t=>exact .inr ⟨t,.inr ⟨ao,b⟩⟩
  |_=>cases b
 ·have c:=d.eval b
  simp only[AV.den] at c
  simp[execOp,c,AV.den]
theorem FF{x:Operand}(d:ev S x=some (.val (.pointer (some ⟨ae,ao,none⟩)))):bO K S R (.nilCheck x) ty (.val (.pointer (some ⟨ae,ao,none⟩))):=
 bO.of fun ad a W dst pos af e c f=>by
   have b:=c.eval d
   simp only[AV.den] at b
   simp[execOp,b]
def pw (K:Nat→Bool) (S:St):Op→Option AV
 | .load T x=>match ev S x with
   |some (.ptr k o)=>cond (K k) (match S.boxes[k]? with
    |some (_,cs)=>match lk iU T with
     |some (true,n)=>nZ cs o n fun r=>some (.val (.agg r.toArray))
     |_=>none
    |none=>none) none
   |_=>none
 | .nilCheck x=>match ev S x with
   |some (.ptr k o)=>some (.ptr k o)
   |some (.val (.pointer (some ⟨b,o,none⟩)))=>some (.val (.pointer (some ⟨b,o,none⟩)))
   |_=>none
 | .fieldAddr T x i=>match ev S x with
   |some (.val (.pointer (some ⟨b,o,none⟩)))=>cond (Nat.blt i 100) (match lk qE (T*100+i) with|some off=>some (.val (.pointer (some ⟨b,o+off,none⟩)))|none=>none) none
   |_=>none
 | .call c=>match c.callee with
   | .builtin .len=>match c.args.toList with
     |[x]=>match c.argTypes.toList with
      |[t]=>match ev S x with
       |some (.val (.slice A n d))=>match lk sU t with|some _=>some (.val (.int .i64 n))|none=>none
       |some (.val (.string s))=>cond (Nat.beq t 9) (some (.val (.int .i64 s.size))) none
       |_=>none
      |_=>none
     |_=>none
   |_=>none
 | .binOp op _ x y _=>match ev S x with
   |some (.val (.int .i64 a))=>match ev S y with
    |some (.val (.int .i64 b))=>match op with
     | .add=>cond (decide (-9223372036854775808≤a+b)&& decide (a+b≤9223372036854775807)) (some (.val (.int .i64 (a+b)))) none
     | .sub=>cond (decide (-9223372036854775808≤a -b)&& decide (a -b≤9223372036854775807)) (some (.val (.int .i64 (a -b)))) none
     |_=>none
    |_=>none
   |_=>none
 |_=>none
theorem vn(h:pw K S cx=some cy):bO K S R cx ty cy:=by
 unfold pw at h
 split at h
 ·split at h
  ·rename_i k o d
   cases f:K k with
   |false=>rw[f] at h;cases h
   |true=>
    rw[f] at h
    simp only[cond_true] at h
    split at h
    ·rename_i u
     split at h
     ·rename_i r
      obtain⟨p,q⟩:=vl h
      cases q
      exact qu d f u (iV r) rfl p
     ·cases h
    ·cases h
  ·cases h
 ·split at h
  ·rename_i d;cases h;exact FE d
  ·rename_i d;cases h;exact FF d
  ·cases h
 ·split at h
  ·rename_i d
   rename_i i _ _ _
   cases g:Nat.blt i 100 with
   |false=>rw[g] at h;cases h
   |true=>
    rw[g] at h
    simp only[cond_true] at h
    split at h
    ·rename_i off v
     cases h
     exact EG d (y6 g v)
    ·cases h
  ·cases h
 ·rename_i c
  obtain⟨y,xs,ts⟩:=c
  simp only at h
  split at h
  ·rename_i z
   split at h
   ·rename_i x d
    split at h
    ·rename_i t m
     split at h
     ·rename_i l
      split at h
      ·rename_i w
       cases h
       obtain rfl:xs=#[x]:=Array.ext' d
       obtain rfl:ts=#[t]:=Array.ext' m
       exact sP l (Fv w)
      ·cases h
     ·rename_i s l
      cases j:Nat.beq t 9 with
      |false=>rw[j] at h;cases h
      |true=>
       rw[j] at h
       cases h
       obtain rfl:xs=#[x]:=Array.ext' d
       obtain rfl:ts=#[t]:=Array.ext' m
       obtain rfl:=g7 j
       exact Fg l underlying9
     ·cases h
    ·cases h
   ·cases h
  ·cases h
 ·split at h
  ·rename_i a d
   split at h
   ·rename_i b n
    split at h
    ·cases e:(decide (-9223372036854775808≤a+b)&& decide (a+b≤9223372036854775807)) with
     |false=>rw[e] at h;cases h
     |true=>
      rw[e] at h
      cases h
      rw[Bool.and_eq_true] at e
      exact kv d n rfl (of_decide_eq_true e.1) (of_decide_eq_true e.2)
    ·cases e:(decide (-9223372036854775808≤a -b)&& decide (a -b≤9223372036854775807)) with
     |false=>rw[e] at h;cases h
     |true=>
      rw[e] at h
      cases h
      rw[Bool.and_eq_true] at e
      exact h0 d n rfl (of_decide_eq_true e.1) (of_decide_eq_true e.2)
    ·cases h
   ·cases h
  ·cases h
 ·cases h
end
section
variable{rw:List bU}
def gw (ops:Array Oper) (sl:List (Nat×AV)):Option (Nat×Bool)→Option Bool
 |none=>some true
 |some (j,b)=>match(ops[j]?).bind (·.dst) with
  |some t=>match look sl t with
   |some (.val (.bool b'))=>some (b'==b)
   |some (.val (.tuple a))=>match a.toList with
    |[]=>some false
    |_=>none
   |_=>none
  |none=>none
def qI (N:Nat) (rw:List bU) (ops:Array Oper) (o:Oper) (r:List Oper) (k:List lJ) (sl:List (Nat×AV)) (bx:List Bx):Option Cg:=match o.dst with
 |some d=>cond (Nat.blt d N) (match gw ops sl o.guard with
  |some true=>match pv gk ⟨sl,bx,rw⟩ o.op with
   |some v=>some ⟨.L ops r,k,(d,v)::sl,bx⟩
   |none=>match pw gk ⟨sl,bx,rw⟩ o.op with|some v=>some ⟨.L ops r,k,(d,v)::sl,bx⟩|none=>none
  |some false=>some ⟨.L ops r,k,(d,.val undef)::sl,bx⟩
  |none=>none) none
 |none=>none
def qJ (N:Nat) (rw:List bU) (ops:Array Oper) (o:Oper) (r:List Oper) (k:List lJ) (sl:List (Nat×AV)) (bx:List Bx):Option Cg:=match o.op,o.guard,o.dst with
 | .alloc T,none,some d=>cond (Nat.blt d N) (match lk zL T with|some cs=>n2 bx pb (T,cs) fun m cm=>some ⟨.L ops r,k,(d,.ptr m 0)::sl,cm⟩|none=>none) none
 | .box T x,none,some d=>cond (Nat.blt d N) (match ev ⟨sl,bx,rw⟩ x with|some (.val v)=>o9 v.cells.toList fun cs=>n2 bx pb (T,cs) fun m cm=>some ⟨.L ops r,k,(d,.ptr m 0)::sl,cm⟩|_=>none) none
 | .store T x y,none,none=>match ev ⟨sl,bx,rw⟩ x with
   |some (.ptr b off)=>match lk iU T with
    |some (true,n)=>match ev ⟨sl,bx,rw⟩ y with
     |some (.val (.agg a))=>cond (a.toList.all (·.oneCell')&& Nat.beq a.toList.length n) (m1 bx b off a.toList fun cm=>some ⟨.L ops r,k,sl,cm⟩) none
     |_=>none
    |some (false,n)=>match ev ⟨sl,bx,rw⟩ y with
     |some (.val v)=>cond (n3 v&& Nat.beq n 1) (m1 bx b off [v] fun cm=>some ⟨.L ops r,k,sl,cm⟩) none
     |_=>none
    |none=>none
   |_=>none
 |_,_,_=>qI N rw ops o r k sl bx
def qK (rw:List bU) (c:Code) (k:List lJ) (sl:List (Nat×AV)) (bx:List Bx):Option Cg:=match c with
 | .seq x y=>some ⟨.V x,.th y::k,sl,bx⟩
 | .skip=>some ⟨.D .normal,k,sl,bx⟩
 | .ret=>some ⟨.D .ret,k,sl,bx⟩
 | .exit id=>some ⟨.D (.exit id),k,sl,bx⟩
 | .block id c=>some ⟨.V c,.bl id::k,sl,bx⟩
 | .cond c x y=>match ev ⟨sl,bx,rw⟩ c with
   |some (.val (.bool true))=>some ⟨.V x,k,sl,bx⟩
   |some (.val (.bool false))=>some ⟨.V y,k,sl,bx⟩
   |_=>none
 | .region _ ops false=>some ⟨.L ops ops.toList,k,sl,bx⟩
 | .loop body=>some ⟨.V body,.lp body 19::k,sl,bx⟩
 |_=>none
def qL (e:Exit) (k:List lJ) (sl:List (Nat×AV)) (bx:List Bx):Option Cg:=match k with
 | .th y::k=>match e with
   | .normal=>some ⟨.V y,k,sl,bx⟩
   |e=>some ⟨.D e,k,sl,bx⟩
 | .bl id::k=>match e with
   | .exit a=>match Nat.beq a id with
     |true=>some ⟨.D .normal,k,sl,bx⟩
     |false=>some ⟨.D (.exit a),k,sl,bx⟩
   |e=>some ⟨.D e,k,sl,bx⟩
 | .fn _::k=>match e with
   | .normal=>none
   |e=>some ⟨.D e,k,sl,bx⟩
 | .lp body n::k=>match e with
   | .normal=>match n with
     |m+1=>some ⟨.V body,.lp body m::k,sl,bx⟩
     |0=>none
   |e=>some ⟨.D e,k,sl,bx⟩
 |[]=>none
def n4 (N:Nat) (rw:List bU) (c:Cg):Option Cg:=match c with
 |⟨.V c,k,sl,bx⟩=>qK rw c k sl bx
 |⟨.L ops [],k,sl,bx⟩=>some ⟨.D .normal,k,sl,bx⟩
 |⟨.L ops (o::r),k,sl,bx⟩=>qJ N rw ops o r k sl bx
 |⟨.D e,k,sl,bx⟩=>qL e k sl bx
def go (N:Nat) (rw:List bU):Nat→Cg→Option Cg
 |0,c=>some c
 |n+1,c=>match n4 N rw c with
  |some c'=>go N rw n c'
  |none=>none
end
section
variable{C:er}{Q:Exit→Act→Wd→Prop}{rw:List bU}{R:Wd}
def Gl (C:er) (Q:Exit→Act→World→Prop) (rw:List bU) (R:World):Cg→Prop
 |⟨.V c,k,sl,bx⟩=>V C c (eb k Q) ⟨sl,bx,rw⟩ R
 |⟨.L ops l,k,sl,bx⟩=>VL C ops (eb k Q) l ⟨sl,bx,rw⟩ R
 |⟨.D e,k,sl,bx⟩=>eY C (eb k Q) e ⟨sl,bx,rw⟩ R
variable{h2:List lJ}{iK:Cg}
theorem FG(h:qI C.N rw dk ea gb h2 bu aS=some iK)(g:Gl C Q rw R iK):VL C dk (eb h2 Q) (ea::gb) ⟨bu,aS,rw⟩ R:=by
 obtain⟨dst,op,ty,pos,af,m⟩:=ea
 unfold qI at h
 cases dst with
 |none=>cases h
 |some d=>
  simp only at h
  cases e:Nat.blt d C.N with
  |false=>rw[e] at h;cases h
  |true=>
   rw[e] at h
   simp only[cond_true] at h
   have key:∀{v:AV},pv gk ⟨bu,aS,rw⟩ op=some v∨pw gk ⟨bu,aS,rw⟩ op=some v→iK=⟨.L dk gb,h2,(d,v)::bu,aS⟩→VL C dk (eb h2 Q) (⟨some d,op,ty,pos,af,none⟩::gb) ⟨bu,aS,rw⟩ R:=by
    rintro v c rfl
    rcases c with c|c
    ·exact vp (mZ c) e g
    ·exact vp (vn c) e g
   cases m with
   |none=>
    simp only[gw] at h
    split at h
    ·rename_i v c;cases h;exact key (.inl c) rfl
    ·split at h
     ·rename_i v c;cases h;exact key (.inr c) rfl
     ·cases h
   |some n=>
    obtain⟨j,b⟩:=n
    simp only[gw] at h
    cases f:(dk[j]?).bind (·.dst) with
    |none=>rw[f] at h;cases h
    |some t=>
     rw[f] at h
     simp only at h
     cases i:look bu t with
     |none=>rw[i] at h;cases h
     |some u=>
      rw[i] at h
      cases u with
      |ptr _ _=>cases h
      |val u=>
       cases u with
       |bool b'=>
        simp only at h
        cases k:(b'==b) with
        |true=>
         rw[k] at h
         simp only at h
         refine dJ f i (by simpa using k) ?_
         split at h
         ·rename_i v c;cases h;exact key (.inl c) rfl
         ·split at h
          ·rename_i v c;cases h;exact key (.inr c) rfl
          ·cases h
        |false=>
         rw[k] at h
         cases h
         refine y2 f i ?_ e g
         revert k
         cases b'<;>cases b<;>simp
       |tuple a=>
        simp only at h
        cases l:a.toList with
        |cons _ _=>rw[l] at h;cases h
        |nil=>
         rw[l] at h
         cases h
         obtain rfl:a=#[]:=Array.ext' l
         exact Fp f i e g
       |_=>cases h
theorem FH(h:qJ C.N rw dk ea gb h2 bu aS=some iK)(g:Gl C Q rw R iK):VL C dk (eb h2 Q) (ea::gb) ⟨bu,aS,rw⟩ R:=by
 obtain⟨dst,op,ty,pos,af,s⟩:=ea
 unfold qJ at h
 simp only at h
 split at h
 ·rename_i T d
  cases f:Nat.blt d C.N with
  |false=>rw[f] at h;cases h
  |true=>
   rw[f] at h
   simp only[cond_true] at h
   cases l:lk zL T with
   |none=>rw[l] at h;cases h
   |some cs=>
    rw[l] at h
    have:=pc (n:=0) qH h
    cases this
    exact y3 aS.length _ (zT l) rfl rfl f (by simpa[Gl] using g)
 ·rename_i T x d
  cases f:Nat.blt d C.N with
  |false=>rw[f] at h;cases h
  |true=>
   rw[f] at h
   simp only[cond_true] at h
   split at h
   ·rename_i v r
    rw[qG] at h
    have:=pc (n:=0) qH h
    cases this
    exact y4 aS.length _ r rfl rfl rfl f (by simpa[Gl] using g)
   ·cases h
 ·rename_i T x y
  split at h
  ·rename_i b off p
   split at h
   ·rename_i n j
    split at h
    ·rename_i a k
     cases c:(a.toList.all (·.oneCell')&& Nat.beq a.toList.length n) with
     |false=>rw[c] at h;cases h
     |true=>
      rw[c] at h
      simp only[cond_true] at h
      rw[Bool.and_eq_true] at c
      obtain⟨q,cs,i,m,h3⟩:=n0 h
      cases h3
      have o:=g7 c.2
      have e:a.size=n:=by rw[←Array.length_toList];exact o
      exact j1 _ p k i (iV j) e (Nat.ble_eq_true_of_le (by omega)) c.1 rfl (by rw[o] at g;exact g)
    ·cases h
   ·rename_i n j
    split at h
    ·rename_i v k
     cases c:(n3 v&& Nat.beq n 1) with
     |false=>rw[c] at h;cases h
     |true=>
      rw[c] at h
      simp only[cond_true] at h
      rw[Bool.and_eq_true] at c
      obtain⟨q,cs,i,m,h3⟩:=n0 h
      cases h3
      obtain rfl:=g7 c.2
      obtain⟨e1,e2⟩:=vm c.1
      refine j1 (n:=1) _ p k i (iV j) (by rw[e1];rfl) (Nat.ble_eq_true_of_le m) (by rw[e1];simp[e2]) rfl ?_
      rw[e1];exact g
    ·cases h
   ·cases h
  ·cases h
 ·exact FG h g
theorem FI{c:Code}(h:qK rw c h2 bu aS=some iK)(g:Gl C Q rw R iK):V C c (eb h2 Q) ⟨bu,aS,rw⟩ R:=by
 unfold qK at h
 split at h
 ·cases h;exact fj g
 ·cases h;exact ml g
 ·cases h;exact o6 g
 ·cases h;exact yP g
 ·cases h;exact uZ g
 ·split at h
  ·rename_i b;cases h;exact mU b g
  ·rename_i b;cases h;exact mm b g
  ·cases h
 ·rename_i ops;cases h;exact gD (l:=ops.toList) g
 ·rename_i body;cases h;exact fun ad a W d=>wp_loop_rounds 20 (by rw[rounds_succ];exact g ad a W d)
 ·cases h
theorem FJ(h:qL eN h2 bu aS=some iK)(g:Gl C Q rw R iK):eY C (eb h2 Q) eN ⟨bu,aS,rw⟩ R:=by
 unfold qL at h
 split at h
 ·split at h
  ·cases h;exact g
  ·rename_i b
   cases h
   cases eN<;>first|exact absurd rfl b|exact g
 ·split at h
  ·split at h
   ·rename_i c
    obtain rfl:=g7 c
    cases h;exact yT g
   ·rename_i c
    cases h;exact EP c g
  ·rename_i b
   cases h
   cases eN<;>first|exact absurd rfl (b _)|exact g
 ·split at h
  ·cases h
  ·rename_i b
   cases h
   cases eN<;>first|exact absurd rfl b|exact g
 ·split at h
  ·split at h
   ·cases h;exact fun ad a W d=>(rounds_succ (P:=prog)).mpr (g ad a W d)
   ·cases h
  ·rename_i b
   cases h
   cases eN<;>first|exact absurd rfl b|exact g
 ·cases h
theorem FK{c c':Cg}(h:n4 C.N rw c=some c')(g:Gl C Q rw R c'):Gl C Q rw R c:=by
 unfold n4 at h
 split at h
 ·exact FI h g
 ·cases h;exact gm g
 ·exact FH h g
 ·exact FJ h g
theorem go_ok:∀{n:Nat} {c c':Cg},go C.N rw n c=some c'→Gl C Q rw R c'→Gl C Q rw R c
 |0,c,c',h,g=>by cases h;exact g
 |n+1,c,c',h,g=>by
  rw[go] at h
  split at h
  ·rename_i c1 a;exact FK a (go_ok h g)
  ·cases h
variable{k:List lJ}{sl:List (Nat×AV)}{bx:List Bx}{c':Cg}{c:Code}{ops:Array Oper}{l:List Oper}{e:Exit}
theorem rV(n:Nat)(h:go C.N rw n ⟨.V c,k,sl,bx⟩=some c')(g:Gl C Q rw R c'):V C c (eb k Q) ⟨sl,bx,rw⟩ R:=go_ok h g
theorem rL(n:Nat)(h:go C.N rw n ⟨.L ops l,k,sl,bx⟩=some c')(g:Gl C Q rw R c'):VL C ops (eb k Q) l ⟨sl,bx,rw⟩ R:=go_ok h g
theorem rD(n:Nat)(h:go C.N rw n ⟨.D e,k,sl,bx⟩=some c')(g:Gl C Q rw R c'):eY C (eb k Q) e ⟨sl,bx,rw⟩ R:=go_ok h g
theorem sV(n:Nat)(h:go C.N rw n ⟨.V c,[],sl,bx⟩=some c')(g:Gl C Q rw R c'):V C c Q ⟨sl,bx,rw⟩ R:=go_ok h g
end
def lL (S:St) (nb:Nat) (J:St):List (Option AV)×List Bx×Bool×Bool:=(J.bW.map fun p=>look S.bW p.1,S.boxes.take J.boxes.length,ij J.boxes.length J.bW,Nat.ble nb J.boxes.length)
def lM (J:St):List (Option AV)×List Bx×Bool×Bool:=(J.bW.map fun p=>some p.2,J.boxes,true,true)
theorem y8{l:List (Nat×AV)}:∀{r:List (Nat×AV)},(r.map fun p=>look l p.1)=r.map (fun p=>some p.2)→ks l r
 |[],_=>trivial
 |(t,x)::r,h=>by
  simp only[List.map_cons,List.cons.injEq] at h
  exact⟨h.1,y8 h.2⟩
theorem pd(h:lL bI ae n6=lM n6):ks bI.bW n6.bW∧n6.boxes=bI.boxes.take n6.boxes.length∧ij n6.boxes.length n6.bW=true∧ae≤n6.boxes.length:=by
 simp only[lL,lM,Prod.mk.injEq] at h
 exact⟨y8 h.1,h.2.1.symm,h.2.2.1,hP h.2.2.2⟩
def qM:List (Nat×AV)→List Nat→(List (Nat×AV)→Option (List (Nat×AV)))→Option (List (Nat×AV))
 |_,[],f=>f []
 |sl,n::a,f=>match look sl n with
  |some v=>qM sl a fun r=>f ((n,v)::r)
  |none=>none
def qN:List Bx→Nat→(List Bx→Option (List Bx))→Option (List Bx)
 |_,0,f=>f []
 |b::bs,n+1,f=>qN bs n fun r=>f (b::r)
 |[],_,_=>none
def iW (a:List (Nat×AV)) (bs:List Bx) (S:St):St:=⟨S.bW++a,bs++S.boxes,S.rows⟩
def kw:List Nat→List bU→List bU
 |(_+1)::m,t::ts=>t::kw m ts
 |0::m,_::ts=>kw m ts
 |_,_=> []
theorem vo:∀(m:List Nat) (ts:List bU),(kw m ts).Sublist ts
 |[],ts=>by cases ts<;>exact eH _
 |_::_,[]=>by rename_i n _;cases n<;>exact eH _
 |0::m,t::ts=> .cons _ (vo m ts)
 |(_+1)::m,t::ts=> .cons_cons _ (vo m ts)
theorem pe(h:kw aI aV=o5):o5.Sublist aV:=h▸vo aI aV
def vq {ι:Type} (C:er) (F:ι→St×World×Prop×Nat) (n:Nat) (a:Act) (W:World):Prop:=u0 C (fun i=>(F i).1) (fun i=>(F i).2.1) (fun i=>(F i).2.2.1) (fun i=>(F i).2.2.2) n a W
def vr {ι:Type} (C:er) (F:ι→St×World×Prop) (a:Act) (W:World):Prop:=∃i,(F i).2.2∧∃ad,Rel C (F i).1 (F i).2.1 ad a W
section
variable{C:er}{Q:Exit→Act→Wd→Prop}{S:St}{R:Wd}{k:List lJ}{ι:Type}
theorem lV{body:Code}(F:ι→St×Wd×Prop×Nat)(i0:ι)(f:(F i0).2.1=R)(h:lL S C.nb (F i0).1=lM (F i0).1)(m:List Nat)(h3:kw m S.rows=(F i0).1.rows)(e:(F i0).2.2.1)
 (round:∀i,(F i).2.2.1→V C body (eb (.fn (vq C F (F i).2.2.2)::k) Q) (F i).1 (F i).2.1):V C (.loop body) (eb k Q) S R:=by
 obtain⟨a,b,c,d⟩:=pd h
 exact yU (fun i=>(F i).1) (fun i=>(F i).2.1) (fun i=>(F i).2.2.1) (fun i=>(F i).2.2.2) i0 e f a b (pe h3) c d round
theorem dR{F:ι→St×Wd×Prop×Nat}{n:Nat}(i:ι)(e:(F i).2.1=R)(h:lL S C.nb (F i).1=lM (F i).1)(m:List Nat)(h3:kw m S.rows=(F i).1.rows)(f:(F i).2.2.1)(g:(F i).2.2.2<n):
 eY C (eb (.fn (vq C F n)::k) Q) .normal S R:=by
 obtain⟨a,b,c,d⟩:=pd h
 exact u1 (J:=fun i=>(F i).1) (RR:=fun i=>(F i).2.1) (H:=fun i=>(F i).2.2.1) (μ:=fun i=>(F i).2.2.2) i f g e a b (pe h3) c d
theorem cV{x y:Code}(F:ι→St×Wd×Prop)(j:V C x (eb (.fn (vr C F)::k) Q) S R)(l:∀i,(F i).2.2→V C y (eb k Q) (F i).1 (F i).2.1):V C (.seq x y) (eb k Q) S R:=by
 intro ad a W g
 refine wp_seq (wp_mono (j ad a W g) ?_)
 intro e c m b
 cases e with
 |normal=>
  obtain⟨i,f,d,h⟩:=b
  exact l i f d c m h
 |_=>exact b
theorem dC{F:ι→St×Wd×Prop}(i:ι)(e:(F i).2.1=R)(h:lL S C.nb (F i).1=lM (F i).1)(m:List Nat)(h3:kw m S.rows=(F i).1.rows)(f:(F i).2.2):
 eY C (eb (.fn (vr C F)::k) Q) .normal S R:=by
 obtain⟨a,b,c,d⟩:=pd h
 exact fun ad j W g=>⟨i,f,ad,by rw[e];exact g.mV a b (pe h3) c d⟩
theorem lK{body:Code}(c:List Nat)(nb:Nat)(d:(qM S.bW c some,qN S.boxes nb some)=(some bu,some aS))(F:ι→St×Wd×Prop×Nat)(i0:ι)(b:(F i0).2.1=R)(h:lL S C.nb (iW bu aS (F i0).1)=lM (iW bu aS (F i0).1))(m:List Nat)(h3:kw m S.rows=(F i0).1.rows)(a:(F i0).2.2.1)
 (round:∀i,(F i).2.2.1→V C body (eb (.fn (vq C (fun i=>(iW bu aS (F i).1,(F i).2)) (F i).2.2.2)::k) Q) (iW bu aS (F i).1) (F i).2.1):V C (.loop body) (eb k Q) S R:=
 lV (fun i=>(iW bu aS (F i).1,(F i).2)) i0 b h m h3 a round
theorem cK{x y:Code}(c:List Nat)(nb:Nat)(d:(qM S.bW c some,qN S.boxes nb some)=(some bu,some aS))(F:ι→St×Wd×Prop)(a:V C x (eb (.fn (vr C (fun i=>(iW bu aS (F i).1,(F i).2)))::k) Q) S R)(b:∀i,(F i).2.2→V C y (eb k Q) (iW bu aS (F i).1) (F i).2.1):V C (.seq x y) (eb k Q) S R:=
 cV (fun i=>(iW bu aS (F i).1,(F i).2)) a b
end
section
variable{C:er}{ops:Array Oper}{Q:Exit→Act→Wd→Prop}{sl:List (Nat×AV)}{bx:List Bx}{rw:List bU}{R:Wd}{d:Nat}{ty:TypeId}{pos:String}{af:Array Edge}{K:HK}{S0:St}{R0:Wd}{aq:Nat→Nat}{ay:Nat}{aN:Array Bool}
theorem vt(i:Nat)(g:ops[i]?=some ⟨some d,cx,ty,pos,af,none⟩)(h:bO (tk K ops i) ⟨sl,bx,rw⟩ R0 cx ty cy)(f:Nat.blt d C.N=true)(b:h1 ops aN i=true)(e:∀{c a cy w},Q (.panic c) (Act.put a (some d) cy) w→Q (.panic c) a w)
 (k:VA C K S0 R0 aq ops Q ay (aN.setIfInBounds i true) ⟨(d,cy)::sl,bx,rw⟩ R):VA C K S0 R0 aq ops Q (ay+1) aN ⟨sl,bx,rw⟩ R:=by
 simp only[h1,Bool.and_eq_true] at b
 exact nX i g h f b.1.1 b.1.2 b.2 (fun c a cy w=>e) k
theorem cl{x:Operand}(c:ev bI x=some (.val (.pointer (some ⟨ae,ao,none⟩))))(b:∀j u,aj[j]?=some u→ah.cell? ⟨ae,ao+j,none⟩=some u)(a:lk iU aH=some (true,aj.length)):bO dl bI ah (.load aH x) ty (.val (.agg aj.toArray)):=
 jY c (iV a) b
theorem bA{x y:Operand}{i:Nat}(a:ev bI x=some (.val (zI i)))(b:ev bI y=some (.val (zI 1)))(h:i<9223372036854775807):bO dl bI R (.binOp .add aH x y ci) ty (.val (zI ((i+1:Nat):Int))):=
 kv a b (by omega) (by omega) (by omega)
end
def pf (v:Value) (b:Bool):Bool:=match v with| .bool x=>x==b|_=>false
theorem mr(b:jX bI a0 cj)
 (a:(dk[ae]?).bind (·.dst)=some ao) (c:look bI.bW ao=some (.val az)):Region.wanted (⟨fB,cx,aH,kx,ky,some (ae,ca)⟩:Oper) (yielded dk cj.tmps)=pf az ca:=by
 simp only[Region.wanted,yielded,a]
 have:=b ao _ c
 simp only[AV.den] at this
 cases az<;>simp_all [pf]
section
variable{C:er}{ops:Array Oper}{Q:Exit→Act→Wd→Prop}{sl:List (Nat×AV)}{bx:List Bx}{rw:List bU}{R:Wd}{d:Nat}{ty:TypeId}{pos:String}{af:Array Edge}{K:HK}{S0:St}{R0:Wd}{aq:Nat→Nat}{ay:Nat}{aN:Array Bool}{j t:Nat}{b b':Bool}
theorem FL(i:Nat)(s:ops[i]?=some ⟨some d,cx,ty,pos,af,some (j,b)⟩)(u:(ops[j]?).bind (·.dst)=some t)(y:look sl t=some (.val (.bool b')))(e:(b'==b)=true)(l:bO (tk K ops i) ⟨sl,bx,rw⟩ R0 cx ty cy)(q:Nat.blt d C.N=true)
 (x:Region.noSelect ops=true) (r:Region.free .any ops aN i=true) (v:(Region.ready .any ops aN).contains i=true) (p:∀c a cy w,Q (.panic c) (Act.put a (some d) cy) w→Q (.panic c) a w)
 (k:VA C K S0 R0 aq ops Q ay (aN.setIfInBounds i true) ⟨(d,cy)::sl,bx,rw⟩ R):VA C K S0 R0 aq ops Q (ay+1) aN ⟨sl,bx,rw⟩ R:=by
 intro ad a W h
 refine u5 (S:=⟨sl,bx,rw⟩) s rfl (dn q) (l.lt h) (fun ad a W h n o=> .inl ⟨(mr h.slot u y).trans e,fun w m=> ?_⟩) x r v p k ad a W h
 refine l.2 ad a w _ _ _ _ h.slot ⟨fun k T cs g e=> ?_,m.b9⟩
 have f:S0.boxes[k]?=some (T,cs):=(o k g).symm.trans e
 rw[n k (List.getElem?_eq_some_iff.1 f).1]
 exact m.box k T cs g f
theorem y9{v:Vl}(i:Nat)(n:ops[i]?=some ⟨some d,cx,ty,pos,af,some (j,b)⟩)(p:(ops[j]?).bind (·.dst)=some t)(s:look sl t=some (.val v))(g:pf v b=false)(l:Nat.blt d C.N=true)
 (r:Region.noSelect ops=true) (m:Region.free .any ops aN i=true) (q:(Region.ready .any ops aN).contains i=true) (f:∀c a v w,Q (.panic c) (Act.put a (some d) v) w→Q (.panic c) a w)
 (k:VA C K S0 R0 aq ops Q ay (aN.setIfInBounds i true) ⟨(d,.val undef)::sl,bx,rw⟩ R):VA C K S0 R0 aq ops Q (ay+1) aN ⟨sl,bx,rw⟩ R:=by
 exact u5 (S:=⟨sl,bx,rw⟩) (v:= .val undef) n rfl (dn l) (fun k o e=>by cases e) (fun ad a W h u x=> .inr ⟨(mr h.slot p s).trans g,rfl⟩) r m q f k
theorem sY(i:Nat)(l:ops[i]?=some ⟨some d,cx,ty,pos,af,some (j,b)⟩)(m:(ops[j]?).bind (·.dst)=some t)(o:look sl t=some (.val (.bool b')))(g:(b'==b)=true)(n:bO (tk K ops i) ⟨sl,bx,rw⟩ R0 cx ty cy)(h:Nat.blt d C.N=true)
 (e:h1 ops aN i=true) (f:∀{c a cy w},Q (.panic c) (Act.put a (some d) cy) w→Q (.panic c) a w)
 (k:VA C K S0 R0 aq ops Q ay (aN.setIfInBounds i true) ⟨(d,cy)::sl,bx,rw⟩ R):VA C K S0 R0 aq ops Q (ay+1) aN ⟨sl,bx,rw⟩ R:=by
 simp only[h1,Bool.and_eq_true] at e
 exact FL i l m o g n h e.1.1 e.1.2 e.2 (fun c a cy w=>f) k
def ps (ops:Array Oper) (N:Nat) (sl:List (Nat×AV)) (i:Nat):Option Nat:=match ops[i]? with
 |some o=>match o.dst with
  |some d=>match o.guard with
   |some (j,b)=>match(ops[j]?).bind (·.dst) with
    |some t=>match look sl t with
     |some (.val v)=>match pf v b with
      |true=>none
      |false=>cond (Nat.blt d N) (some d) none
     |_=>none
    |none=>none
   |none=>none
  |none=>none
 |none=>none
end
def sZ (K:Nat→Bool) (S:St) (op:Op):Option AV:=match pv K S op with
 |some v=>some v
 |none=>pw K S op
theorem ph(h:sZ dl bI cx=some cy):bO dl bI ah cx aH cy:=by
 unfold sZ at h
 split at h
 ·rename_i u hu;cases h;exact mZ hu
 ·exact vn h
def s0 {β:Type} (ops:Array Oper) (c:Array Bool→Nat→Bool) (rw:List bU) (i:Nat) (L:Array Bool) (sl:List (Nat×AV)) (bx:List Bx) (f:List Bx→Option β):Option β:=match ops[i]? with
 |some o=>match o.op,o.guard,o.dst with
  | .store T x y,none,none=>match ev ⟨sl,bx,rw⟩ x with
    |some (.ptr b off)=>cond (c (L.setIfInBounds i true) b) none (match lk iU T with
     |some (true,n)=>match ev ⟨sl,bx,rw⟩ y with
      |some (.val (.agg a))=>cond (a.toList.all (·.oneCell')&& Nat.beq a.toList.length n) (m1 bx b off a.toList f) none
      |_=>none
     |some (false,n)=>match ev ⟨sl,bx,rw⟩ y with
      |some (.val v)=>cond (n3 v&& Nat.beq n 1) (m1 bx b off [v] f) none
      |_=>none
     |none=>none)
    |_=>none
  |_,_,_=>none
 |none=>none
theorem vu{rw:List bU}{i:Nat}{f:List Bx→Option cW}{y:cW}(h:s0 dk qO rw i bQ bu aS f=some y):
 ∃T x z ty pos af b off v n agg d cs,dk[i]?=some ⟨none,.store T x z,ty,pos,af,none⟩∧ev ⟨bu,aS,rw⟩ x=some (.ptr b off)∧ev ⟨bu,aS,rw⟩ z=some (.val v)∧aS[b]?=some (d,cs)∧cr T agg n∧v.cells.size=n∧Nat.ble (off+n) cs.length=true∧v.cells.toList.all (·.oneCell')=true∧qO (bQ.setIfInBounds i true) b=false∧f (aS.set b (d,cs.take off++v.cells.toList++cs.drop (off+n)))=some y:=by
 unfold s0 at h
 cases p:dk[i]? with
 |none=>rw[p] at h;cases h
 |some o=>
  rw[p] at h
  obtain⟨dst,op,ty,pos,af,r⟩:=o
  simp only at h
  split at h
  ·rename_i T x z
   split at h
   ·rename_i b off q
    cases hh:qO (bQ.setIfInBounds i true) b with
    |true=>rw[hh] at h;cases h
    |false=>
     rw[hh] at h
     simp only[cond_false] at h
     split at h
     ·rename_i n k
      split at h
      ·rename_i a l
       cases c:(a.toList.all (·.oneCell')&& Nat.beq a.toList.length n) with
       |false=>rw[c] at h;cases h
       |true=>
        rw[c] at h
        simp only[cond_true] at h
        rw[Bool.and_eq_true] at c
        obtain⟨d,cs,j,g,h3⟩:=n0 h
        have m:=g7 c.2
        have e:a.size=n:=by rw[←Array.length_toList];exact m
        rw[m] at g h3
        exact⟨T,x,z,ty,pos,af,b,off,.agg a,n,true,d,cs,rfl,q,l,j,iV k,e,Nat.ble_eq_true_of_le g,c.1,hh,h3⟩
      ·cases h
     ·rename_i n k
      split at h
      ·rename_i v l
       cases c:(n3 v&& Nat.beq n 1) with
       |false=>rw[c] at h;cases h
       |true=>
        rw[c] at h
        simp only[cond_true] at h
        rw[Bool.and_eq_true] at c
        obtain⟨d,cs,j,g,h3⟩:=n0 h
        obtain rfl:=g7 c.2
        obtain⟨e1,e2⟩:=vm c.1
        refine⟨T,x,z,ty,pos,af,b,off,v,1,false,d,cs,rfl,q,l,j,iV k,by rw[e1];rfl,Nat.ble_eq_true_of_le g,by rw[e1];simp[e2],hh,?_⟩
        rw[e1];exact h3
      ·cases h
     ·cases h
   ·cases h
  ·cases h
def s3 (ops:Array Oper) (N:Nat) (a:Array Bool→Nat→Bool) (i:Nat) (L:Array Bool) (bx:List Bx):Option (Nat×Nat×List Bx):=match ops[i]? with
 |some o=>match o.op,o.guard,o.dst with
  | .alloc T,none,some d=>cond (Nat.blt d N) (match lk zL T with|some cs=>n2 bx pb (T,cs) fun m cm=>cond (a (L.setIfInBounds i true) m) none (some (d,m,cm))|none=>none) none
  |_,_,_=>none
 |none=>none
theorem za{i:Nat}{d m:Nat}(h:s3 dk ae qO i bQ aS=some (d,m,lF)):
 ∃T ty pos af cs,dk[i]?=some ⟨some d,.alloc T,ty,pos,af,none⟩∧eQ T cs∧aS.length=m∧aS++ [(T,cs)]=lF∧Nat.blt d ae=true∧qO (bQ.setIfInBounds i true) m=false:=by
 unfold s3 at h
 cases e:dk[i]? with
 |none=>rw[e] at h;cases h
 |some o=>
  rw[e] at h
  obtain⟨dst,op,ty,pos,af,g⟩:=o
  simp only at h
  split at h
  ·rename_i T f
   cases b:Nat.blt f ae with
   |false=>rw[b] at h;cases h
   |true=>
    rw[b] at h
    simp only[cond_true] at h
    cases c:lk zL T with
    |none=>rw[c] at h;cases h
    |some cs=>
     rw[c] at h
     have a:=pc (n:=0) qH h
     cases hh:qO (bQ.setIfInBounds i true) (0+aS.length) with
     |true=>rw[hh] at a;cases a
     |false=>
      rw[hh] at a
      cases a
      exact⟨T,ty,pos,af,cs,rfl,zT c,(Nat.zero_add _).symm,rfl,b,hh⟩
  ·cases h
def m2 (ops:Array Oper) (N:Nat) (a:Array Bool→Nat→Bool) (b:Nat→Nat→Bool) (rw:List bU):List Nat→Array Bool→Nat→List (Nat×AV)→List Bx→Option (Nat×Array Bool×List (Nat×AV)×List Bx)
 |[],L,F,sl,bx=>some (F,L,sl,bx)
 |i::is,L,F+1,sl,bx=>match Nat.blt i 1000 with
  |true=>match ops[i]? with
   |some o=>match o.dst with
    |some d=>cond (Nat.blt d N) (match gw ops sl o.guard with
     |some true=>match sZ (b i) ⟨sl,bx,rw⟩ o.op with
      |some v=>m2 ops N a b rw is (L.setIfInBounds i true) F ((d,v)::sl) bx
      |none=>none
     |some false=>m2 ops N a b rw is (L.setIfInBounds i true) F ((d,.val undef)::sl) bx
     |none=>none) none
    |none=>none
   |none=>none
  |false=>match ops[i -1000]? with
   |some o=>match o.dst,o.guard with
    |none,_=>s0 ops a rw (i -1000) L sl bx fun cm=>m2 ops N a b rw is (L.setIfInBounds (i -1000) true) F sl cm
    |some d,none=>cond (Nat.blt d N) (match sZ gk ⟨sl,bx,rw⟩ o.op with
     |some v=>m2 ops N a b rw is (L.setIfInBounds (i -1000) true) F ((d,v)::sl) bx
     |none=>none) none
    |_,_=>none
   |none=>none
 |_::_,_,0,_,_=>none
def pi (ops:Array Oper):List Nat→Array Bool→Bool
 |[],_=>true
 |i::is,L=>match Nat.blt i 1000 with
  |true=>h1 ops L i&& pi ops is (L.setIfInBounds i true)
  |false=>(Region.ready .any ops L==[i -1000])&& pi ops is (L.setIfInBounds (i -1000) true)
section
variable{C:er}{ops:Array Oper}{Q:Exit→Act→Wd→Prop}{rw:List bU}{R:Wd}{K:HK}{S0:St}{R0:Wd}{aq:Nat→Nat}
theorem bL:∀(is:List Nat) {ay s:Nat} {aN A:Array Bool} {sl k9:List (Nat×AV)} {bx cm:List Bx},m2 ops C.N (fun L k=>hold K L k) (tk K ops) rw is aN ay sl bx=some (s,A,k9,cm)→pi ops is aN=true→
 (∀{c a d v w},Q (.panic c) (Act.put a (some d) v) w→Q (.panic c) a w)→VA C K S0 R0 aq ops Q s A ⟨k9,cm,rw⟩ R→VA C K S0 R0 aq ops Q ay aN ⟨sl,bx,rw⟩ R
 |[],ay,s,aN,A,sl,k9,bx,cm,h,e,f,k=>by cases h;exact k
 |i::is,0,_,_,_,_,_,_,_,h,_,_,_=>by cases h
 |i::is,ay+1,s,aN,A,sl,k9,bx,cm,h,e,f,k=>by
  unfold m2 at h
  unfold pi at e
  cases E:Nat.blt i 1000 with
  |true=>
   rw[E] at h e
   simp only[Bool.and_eq_true] at h e
   cases l:ops[i]? with
   |none=>rw[l] at h;cases h
   |some o=>
    rw[l] at h
    obtain⟨dst,op,ty,pos,af,B⟩:=o
    cases dst with
    |none=>cases h
    |some d=>
     simp only at h
     cases g:Nat.blt d C.N with
     |false=>rw[g] at h;cases h
     |true=>
      rw[g] at h
      simp only[cond_true] at h
      cases B with
      |none=>
       simp only[gw] at h
       split at h
       ·rename_i v r
        exact vt i l (ph r) g e.1 f (bL is h e.2 f k)
       ·cases h
      |some U=>
       obtain⟨j,b⟩:=U
       simp only[gw] at h
       cases p:(ops[j]?).bind (·.dst) with
       |none=>rw[p] at h;cases h
       |some t=>
        rw[p] at h
        simp only at h
        cases q:look sl t with
        |none=>rw[q] at h;cases h
        |some u=>
         rw[q] at h
         have m:=e.1
         simp only[h1,Bool.and_eq_true] at m
         cases u with
         |ptr _ _=>cases h
         |val u=>
          cases u with
          |bool b'=>
           simp only at h
           cases y:(b'==b) with
           |true=>
            rw[y] at h
            simp only at h
            split at h
            ·rename_i v r
             exact sY i l p q y (ph r) g e.1 f (bL is h e.2 f k)
            ·cases h
           |false=>
            rw[y] at h
            exact y9 i l p q y g m.1.1 m.1.2 m.2 (fun c a v w=>f) (bL is h e.2 f k)
          |tuple a=>
           simp only at h
           cases D:a.toList with
           |cons _ _=>rw[D] at h;cases h
           |nil=>
            rw[D] at h
            exact y9 i l p q rfl g m.1.1 m.1.2 m.2 (fun c a v w=>f) (bL is h e.2 f k)
          |_=>cases h
  |false=>
   rw[E] at h e
   simp only[Bool.and_eq_true] at h e
   have F:Region.ready .any ops aN=[i -1000]:=eq_of_beq e.1
   cases l:ops[i -1000]? with
   |none=>rw[l] at h;cases h
   |some o=>
    rw[l] at h
    obtain⟨dst,op,ty,pos,af,B⟩:=o
    simp only at h
    cases dst with
    |none=>
     simp only at h
     obtain⟨T,x,z,ty,pos,af,b,off,v,n,agg,V,cs,g1,g2,H,I,J,M,O,P,S,G⟩:=vu h
     exact a7 [i -1000] F rfl (mX _ g1 g2 H I J M O P S rfl (bL is G e.2 f k) bf)
    |some d=>
     cases B with
     |some _=>cases h
     |none=>
      simp only at h
      cases g:Nat.blt d C.N with
      |false=>rw[g] at h;cases h
      |true=>
       rw[g] at h
       simp only[cond_true] at h
       split at h
       ·rename_i v r
        exact a7 [i -1000] F rfl (sS l (ph r) g (bL is h e.2 f k) bf)
       ·cases h
theorem FM{ay i:Nat}(h:s0 ops (fun L k=>hold K L k) rw i bQ bu aS some=some lF)(o:VA C K S0 R0 aq ops Q ay (bQ.setIfInBounds i true) ⟨bu,lF,rw⟩ R)(m:fq C K S0 R0 aq ops Q ay bQ ⟨bu,aS,rw⟩ R aI):fq C K S0 R0 aq ops Q ay bQ ⟨bu,aS,rw⟩ R (i::aI):=by
 obtain⟨T,x,z,ty,pos,af,b,off,v,n,agg,p,cs,g1,g2,c,d,e,f,g,j,l,a⟩:=vu h
 cases a
 exact mX _ g1 g2 c d e f g j l rfl o m
end
section
variable{β:Type}
def s4 (S:St):List (Nat×Operand)→Nat→(List Value→Option β)→Option β
 |[],_,f=>f []
 |(j,x)::r,i,f=>match Nat.beq j i with
  |true=>match ev S x with
   |some (.val v)=>s4 S r (i+1) fun l=>f (v::l)
   |_=>none
  |false=>none
theorem zb{S:St}:∀{l:List (Nat×Operand)} {i:Nat} {f:LV→Option β} {y:β},s4 S l i f=some y→∃vs,(l.map fun p=>(p.1,ev S p.2))=((vs.zipIdx i).map fun x=>(x.2,some (AV.val x.1)))∧f vs=some y
 |[],i,f,y,h=>⟨[],rfl,h⟩
 |(j,x)::r,i,f,y,h=>by
  unfold s4 at h
  cases a:Nat.beq j i with
  |false=>rw[a] at h;cases h
  |true=>
   rw[a] at h
   simp only at h
   split at h
   ·rename_i v d
    obtain⟨vs,b,c⟩:=zb h
    refine⟨v::vs,?_,c⟩
    simp only[List.map_cons,List.zipIdx_cons,b,d,Nat.eq_of_beq_eq_true a]
   ·cases h
def s5 {α:Type}:List α→List α→(List α→Option β)→Option β
 |[],r,f=>f r
 |a::c,r,f=>s5 c r fun l=>f (a::l)
theorem zc{α:Type}:∀{c r:List α} {f:List α→Option β},s5 c r f=f (c++r)
 |[],r,f=>rfl
 |a::c,r,f=>by rw[s5,zc];rfl
def s6 (size:Nat):List Value→(List Value→Option β)→Option β
 |[],f=>f []
 |v::vs,f=>match Nat.beq v.cells.size size with
  |true=>s6 size vs fun r=>s5 v.cells.toList r f
  |false=>none
theorem zd{size:Nat}:∀{vs:LV} {f:LV→Option β} {y:β},s6 size vs f=some y→vs.all (fun v=>v.cells.size==size)=true∧f (vs.flatMap fun v=>v.cells.toList)=some y
 |[],f,y,h=>⟨rfl,h⟩
 |v::vs,f,y,h=>by
  unfold s6 at h
  cases a:Nat.beq v.cells.size size with
  |false=>rw[a] at h;cases h
  |true=>
   rw[a] at h
   obtain⟨c,b⟩:=zd h
   rw[zc] at b
   refine⟨?_,by rw[List.flatMap_cons];exact b⟩
   rw[List.all_cons,c,Bool.and_true]
   exact beq_iff_eq.2 (g7 a)
end
def pj (S:St) (l:List (Nat×Operand)) (n size N d:Nat):Option (List Value×List Value):=cond (Nat.blt 0 n&& Nat.ble n 1000&& Nat.blt d N) (s4 S l 0 fun vs=>cond (Nat.beq vs.length n) (s6 size vs fun cs=>some (vs,cs)) none) none
theorem s7{n size N d:Nat}(h:pj bI hY.toList n size N d=some (aj,bj)):mn bI hY aj∧aj.all (fun v=>v.cells.size==size)=true∧aj.length=n∧Nat.blt 0 n=true∧Nat.ble n 1000=true∧(aj.flatMap fun v=>v.cells.toList)=bj∧Nat.blt d N=true:=by
 unfold pj at h
 cases a:(Nat.blt 0 n&& Nat.ble n 1000&& Nat.blt d N) with
 |false=>rw[a] at h;cases h
 |true=>
  rw[a] at h
  simp only[cond_true] at h
  obtain⟨g,e,b⟩:=zb h
  cases c:Nat.beq g.length n with
  |false=>rw[c] at b;cases b
  |true=>
   rw[c] at b
   simp only[cond_true] at b
   obtain⟨h3,f⟩:=zd b
   cases f
   rw[Bool.and_eq_true,Bool.and_eq_true] at a
   exact⟨e,h3,g7 c,a.1.1,a.1.2,rfl,a.2⟩
def s8 (ops:Array Oper) (i:Nat) (S:St) (size N:Nat):Option (Nat×Nat×Nat×List Value×List Value):=match ops[i]? with
 |some o=>match o.op,o.guard,o.dst with
  | .buildSlice t n parts,none,some d=>match pj S parts.toList n size N d with|some (vs,cs)=>some (t,n,d,vs,cs)|none=>none
  |_,_,_=>none
 |none=>none
theorem ze{i:Nat}{size N t n d:Nat}(h:s8 dk i bI size N=some (t,n,d,aj,bj)):∃parts ty pos af,dk[i]?=some ⟨some d,.buildSlice t n parts,ty,pos,af,none⟩∧pj bI parts.toList n size N d=some (aj,bj):=by
 unfold s8 at h
 cases a:dk[i]? with
 |none=>rw[a] at h;cases h
 |some o=>
  rw[a] at h
  obtain⟨dst,op,ty,pos,af,e⟩:=o
  simp only at h
  split at h
  ·rename_i g f parts c
   split at h
   ·rename_i j ds b
    cases h
    exact⟨parts,ty,pos,af,rfl,b⟩
   ·cases h
  ·cases h
section
variable{C:er}{ops:Array Oper}{Q:Exit→Act→Wd→Prop}{rest:List Oper}{sl:List (Nat×AV)}{bx:List Bx}{rw:List bU}{R:Wd}{d:Nat}{ty:TypeId}{pos:String}{af:Array Edge}{t e size n:Nat}{parts:Array (Nat×Operand)}{vs cs:LV}
theorem et(i:c7 t e size)(h:pj ⟨sl,bx,rw⟩ parts.toList n size C.N d=some (vs,cs))(k:∀g R',Sub R R'→(∀j u,cs[j]?=some u→R'.cell? ⟨g,j,none⟩=some u)→VL C ops Q rest ⟨(d,.val (.slice (some ⟨g,0,none⟩) n n))::sl,bx,⟨.slice (some ⟨g,0,none⟩) n n,n,cs,e,size⟩::rw⟩ R'):VL C ops Q (⟨some d,.buildSlice t n parts,ty,pos,af,none⟩::rest) ⟨sl,bx,rw⟩ R:=by
 obtain⟨a,b,c,c2,c3,f,c5⟩:=s7 h
 exact u7 i a b c c2 c3 f c5 k
theorem eW{ay i:Nat}(o:c7 t e size)(h:s8 ops i ⟨sl,bx,rw⟩ size C.N=some (t,n,d,vs,cs))(k:∀g R',Sub R R'→(∀j u,cs[j]?=some u→R'.cell? ⟨g,j,none⟩=some u)→VA C il bI ah a0 ops Q ay (bQ.setIfInBounds i true) ⟨(d,.val (.slice (some ⟨g,0,none⟩) n n))::sl,bx,⟨.slice (some ⟨g,0,none⟩) n n,n,cs,e,size⟩::rw⟩ R')(m:fq C il bI ah a0 ops Q ay bQ ⟨sl,bx,rw⟩ R aI):fq C il bI ah a0 ops Q ay bQ ⟨sl,bx,rw⟩ R (i::aI):=by
 obtain⟨parts,ty,pos,af,l,h⟩:=ze h
 obtain⟨a,b,c,c2,c3,f,c5⟩:=s7 h
 exact Fs l o a b c c2 c3 f c5 k m
end
section
variable{C:er}{S:St}{R:Wd}{fn:Func}{eP:Vl→List Bx→List bU→Wd→Prop}{r1 r2 r3:ResultVar}{v1 v2 v3:Vl}
theorem cH(b:fn.results=#[r1])(a:ei S r1 v1)(c:eP v1 (S.boxes.take C.nb) [] R):eY C (bodyPost prog fn (End C eP)) .ret S R:=dN b a (eH _) c
theorem cB(c:fn.results=#[r1,r2])(a:ei S r1 v1)(b:ei S r2 v2)(d:eP (.tuple #[v1,v2]) (S.boxes.take C.nb) [] R):eY C (bodyPost prog fn (End C eP)) .ret S R:=qz c a b (eH _) d
theorem s9(c:fn.results=#[r1,r2,r3])(a:ei S r1 v1)(b:ei S r2 v2)(h3:ei S r3 v3)(d:eP (.tuple #[v1,v2,v3]) (S.boxes.take C.nb) [] R):eY C (bodyPost prog fn (End C eP)) .ret S R:=u2 c a b h3 (eH _) d
end
end Go.Proofs.YthnogncknmhgoaaGreat.Vm
namespace Go.Proofs.YthnogncknmhgoaaGreat.Lx
open ChangeShapes WideShapes ChangeAt RowKit bq Data lB
def en (r a:Rd) (e:Ex):Prop:=
 r.I≤a.I∧(r.bad=true→a.bad=true∧a.I=r.I∧e.size=1)∧
 (a.bad=false→r.I<a.I∧e.size+3≤4*(a.I -r.I))∧e.size≤4*(a.I -r.I)+4
end Go.Proofs.YthnogncknmhgoaaGreat.Lx
namespace Go.Proofs.YthnogncknmhgoaaGreat.Vm
open ChangeShapes WideShapes ChangeAt RowKit bq Data Lx
variable{zl:Addr}{aY:BA}{ca:Bool}{aM:Ex}{bi:Int}{aj:LV}{cv:List Ex}{ax:List Tk}{ae ao:Nat}{aA:OA}{bY cO fQ h4 m7 qY qZ:Rd}{ah:Wd}
theorem mixed:prog.follows .mixedOrders=true:=by kernel_rfl
theorem bG:cr 3 false 1:=by unfold cr;kernel_rfl
theorem mu:cr 4 false 1:=by unfold cr;kernel_rfl
theorem fx:cr 9 false 1:=by unfold cr;kernel_rfl
theorem gp:cr 29 true 2:=by unfold cr;kernel_rfl
theorem cY:cr 31 true 6:=by unfold cr;kernel_rfl
theorem pk:cr 96 true 5:=by unfold cr;kernel_rfl
theorem dr:cr 98 true 6:=by unfold cr;kernel_rfl
theorem m3:kq 96 0 0 false 1:=by unfold kq;kernel_rfl
theorem vv:kq 96 1 1 false 1:=by unfold kq;kernel_rfl
theorem mw:kq 96 3 3 true 2:=by unfold kq;kernel_rfl
theorem io:c7 92 96 5:=by unfold c7;kernel_rfl
theorem eZ:aF 26:=by unfold aF;kernel_rfl
theorem m4:aF 27:=by unfold aF;kernel_rfl
theorem hG:aF 29:=by unfold aF;kernel_rfl
theorem FN:prog.underlying 92=some (.slice 96):=by kernel_rfl
def rdv (A:Option Addr) (cap:Nat) (ts:List Tk) (r:Rd):Value:= .agg #[.slice A ts.length cap,.int .i64 r.I,.int .i64 r.deep,.bool r.bad,.int .i64 r.l,.int .i64 r.c]
theorem k3.sub{w c:Wd}{v:Vl}{ts:List Tk}(h:k3 w v ts)(l:Sub w c):k3 c v ts:=by
 obtain⟨A,cap,d,f,g,h3,i,a,k⟩:=h
 refine⟨A,cap,d,f,g,h3,i,⟨a.1,a.2.imp id ?_⟩,k⟩
 rintro⟨b,o,e,m⟩
 exact⟨b,o,e,fun j u hu=>l _ _ _ (m j u hu)⟩
def cE (R:World) (A:Option Addr) (cap:Nat) (ts:List Tk):Prop:=k3 R (.slice A ts.length cap) ts
theorem cE.sub{R R':Wd}{A:OA}{cap:Nat}{ts:List Tk}(h:cE R A cap ts)(a:Sub R R'):cE R' A cap ts:=k3.sub h a
abbrev bF:=@cE.sub
theorem cE.cell{R:Wd}{A:OA}{cap:Nat}{ts:List Tk}(h:cE R A cap ts)(i:Nat)(d:i<ts.length):∃b o,A=some ⟨b,o,none⟩∧∀j u,(ts[i]).cs[j]?=some u→R.cell? ⟨b,o+i*5+j,none⟩=some u:=by
 obtain⟨k,l,a,n,p,_,q,g,_⟩:=h
 cases a
 rcases g.2 with m|⟨b,o,e,c⟩
 ·omega
 ·refine⟨b,o,e,fun j u hu=> ?_⟩
  have f:j<5:=by
   have:=(List.getElem?_eq_some_iff.1 hu).1
   simpa[Tk.cs] using this
  rw[Nat.add_assoc]
  exact c (i*5+j) u ((yE ts i d j f).trans hu)
theorem cE.len(h:cE ah aA ae ax):ax.length≤10000:=by
 obtain⟨b,c,_,_,_,a,_⟩:=h
 exact a
theorem gq(h:cE ah aA ae ax)(r:Rd):bd 26 [rdv aA ae ax r] ah fun v R'=>R'=ah∧v=(aZ ax r.I).v:=by
 have hlen:=h.len
 obtain⟨I,deep,bad,l,c⟩:=r
 simp only
 by_cases n:I<ax.length
 obtain⟨b,o,g,m⟩:=h.cell I n
 have d:aZ ax I=ax[I]:=by unfold aZ;rw[List.getElem?_eq_getElem n]
 rw[d]
 generalize ax[I]=t at*
 obtain⟨tk,x,s,f,e⟩:=t
 refine b5 func26 rfl ntmps26 rfl rfl fun w G ad=> ?_
 refine sV 17 rfl ?_
 cases a:(decide ((I:Int)<(ax.length:Int)))
 simp only[decide_eq_true_eq,decide_eq_false_iff_not] at a;omega
 refine rV 7 rfl (vp (a3 (i:=I) g rfl rfl (by omega) io) rfl (vp (cl rfl m rfl) rfl (rL 5 rfl (ww 1 ?_))))
 rotate_left
 have q:ax[I]?=none:=List.getElem?_eq_none (by omega)
 by_cases y:0<ax.length
 obtain⟨b,o,g,m⟩:=h.cell (ax.length -1) (by omega)
 have d:aZ ax I=⟨-1,⟨#[]⟩,0,(ax[ax.length -1]).l,(ax[ax.length -1]).c⟩:=by
  unfold aZ sx
  rw[q,List.getLast?_eq_getElem?,List.getElem?_eq_getElem (by omega)]
 rw[d]
 generalize ax[ax.length -1]=t at*
 obtain⟨tk,x,s,f,e⟩:=t
 have p:∀j u,([zI f,zI e]:LV)[j]?=some u→ah.cell? ⟨b,o+(ax.length -1)*5+3+j,none⟩=some u:=fun j u hu=>by
  rw[Nat.add_assoc _ 3 j]
  refine m (3+j) u ?_
  match j,hu with
  |0,hu=>exact hu
  |1,hu=>exact hu
 refine b5 func26 rfl ntmps26 rfl rfl fun w G ad=> ?_
 refine sV 17 rfl ?_
 cases a:(decide ((I:Int)<(ax.length:Int)))
 refine rV 12 rfl ?_
 cases k:(decide ((ax.length:Int)>0))
 simp only[decide_eq_true_eq,decide_eq_false_iff_not] at k;omega
 refine rV 8 rfl (vp (h0 (c:=((ax.length -1:Nat):Int)) rfl rfl (by omega) (by omega) (by omega)) rfl (vp (a3 (i:=ax.length -1) g rfl rfl (by omega) io) rfl (rL 1 rfl (vp (cl rfl p rfl) rfl (vp (bJ (vs:=[(0,zI (-1)),(3,.agg #[zI f,zI e])]) (v:= .agg #[zI (-1),.string ⟨#[]⟩,zI 0,zI f,zI e]) rfl (fun W=>by kernel_rfl)) rfl (rL 5 rfl (ww 1 ?_)))))))
 rotate_left
 simp only[decide_eq_true_eq,decide_eq_false_iff_not] at a;omega
 have d:aZ ax I=⟨-1,⟨#[]⟩,0,0,0⟩:=by
  unfold aZ sx
  have:ax=[]:=mR (by omega)
  subst this
  rfl
 rw[d]
 refine b5 func26 rfl ntmps26 rfl rfl fun w G ad=> ?_
 refine sV 17 rfl ?_
 cases a:(decide ((I:Int)<(ax.length:Int)))
 refine rV 12 rfl ?_
 cases k:(decide ((ax.length:Int)>0))
 refine rV 5 rfl (vp (bJ (vs:=[(0,zI (-1))]) (v:= .agg #[zI (-1),.string ⟨#[]⟩,zI 0,zI 0,zI 0]) rfl (fun W=>by kernel_rfl)) rfl (rL 4 rfl (ww 1 ?_)))
 rotate_left
 simp only[decide_eq_true_eq,decide_eq_false_iff_not] at k;omega
 simp only[decide_eq_true_eq,decide_eq_false_iff_not] at a;omega
 any_goals
  refine uw 1 ?_
  refine cH results26 (aK rfl rfl pk) ⟨rfl,rfl,rfl⟩
theorem m5(a:cE ah aA ae ax)(r:Rd):bd 27 [rdv aA ae ax r] ah fun v R'=>R'=ah∧v=rdv aA ae ax (hi ax r):=by
 obtain⟨I,deep,bad,l,c⟩:=r
 try dsimp only at*
 refine b5 func27 rfl ntmps27 rfl rfl fun w G ad=> ?_
 refine sV 14 rfl ?_
 cases b:(bad)
 refine rV 3 rfl ?_
 refine be (gq a (⟨I,deep,false,l,c⟩:Rd)) eZ rfl rfl ?_
 rintro _ rfl
 refine vp (mj (ds:=#[zI ((aZ ax I).l),zI ((aZ ax I).c)]) rfl mw rfl) rfl (rL 17 rfl (ww 1 ?_))
 rotate_left
 refine rV 16 rfl (ww 1 ?_)
 rotate_left
 any_goals
  refine uw 1 ?_
  refine cH results27 (aK rfl rfl dr) ⟨rfl,rfl,?_⟩
  simp[hi,rdv]
theorem hH(a:cE ah aA ae ax)(r:Rd)(kind:Int)(text:BA):bd 29 [rdv aA ae ax r,zI kind,.string text] ah fun v R'=>R'=ah∧v= .bool (gB ax r kind text):=by
 obtain⟨I,deep,bad,l,c⟩:=r
 try dsimp only at*
 refine b5 func29 rfl ntmps29 rfl rfl fun w G ad=> ?_
 refine sV 12 rfl ?_
 cases b:(bad)
 refine rL 1 rfl (dJ rfl rfl rfl ?_)
 refine be (gq a (⟨I,deep,false,l,c⟩:Rd)) eZ rfl rfl ?_
 rintro _ rfl
 refine dJ rfl rfl rfl (vp (k6 rfl m3 rfl) rfl (rL 4 rfl ?_))
 cases d:(((aZ ax I).k)==kind)
 refine rL 10 rfl (ww 1 ?_)
 rotate_left
 refine rL 1 rfl (dJ rfl rfl rfl ?_)
 refine be (gq a (⟨I,deep,false,l,c⟩:Rd)) eZ rfl rfl ?_
 rintro _ rfl
 refine dJ rfl rfl rfl (vp (k6 rfl vv rfl) rfl (rL 7 rfl (ww 1 ?_)))
 rotate_left
 refine rL 17 rfl (ww 1 ?_)
 rotate_left
 any_goals
  refine uw 1 ?_
  refine cH results29 (aT rfl) ⟨rfl,rfl,?_⟩
  simp_all [gB]
theorem iq(a:cE ah aA ae ax)(r:Rd)(kind:Int)(text:BA)(b:r.I≤100000):bd 28 [rdv aA ae ax r,zI kind,.string text] ah fun v R'=>R'=ah∧v=rdv aA ae ax (gU ax r kind text):=by
 obtain⟨I,deep,bad,l,c⟩:=r
 try dsimp only at*
 refine b5 func28 rfl ntmps28 rfl rfl fun w G ad=> ?_
 refine sV 12 rfl ?_
 refine be (hH a (⟨I,deep,bad,l,c⟩:Rd) kind text) hG rfl rfl ?_
 rintro _ rfl
 try dsimp only[rdv]
 refine rL 3 rfl ?_
 cases d:(gB ax (⟨I,deep,bad,l,c⟩:Rd) kind text)
 refine rV 4 rfl ?_
 refine be (m5 a (⟨I,deep,bad,l,c⟩:Rd)) m4 rfl rfl ?_
 rintro _ rfl
 try dsimp only[rdv]
 refine rL 5 rfl ?_
 refine cH results28 (aK rfl rfl dr) ⟨rfl,rfl,?_⟩
 simp_all [gU,rdv]
 refine rV 7 rfl (vp (bA rfl rfl (by omega)) rfl (rL 11 rfl ?_))
 refine cH results28 (aK rfl rfl dr) ⟨rfl,rfl,?_⟩
 simp_all [gU,rdv]
theorem qP(b:cE ah aA ae ax)(r:Rd)(d:r.I≤100000)(e:0≤r.deep):bd 60 [rdv aA ae ax r] ah fun v R'=>R'=ah∧v=rdv aA ae ax (lE ax r):=by
 obtain⟨I,deep,bad,l,c⟩:=r
 try dsimp only at*
 refine b5 func60 rfl ntmps60 rfl rfl fun w G ad=> ?_
 refine fj (gD (y4 0 [(98,[.slice aA ax.length ae,zI I,zI deep,.bool bad,zI l,zI c])] rfl rfl rfl rfl rfl (am N1 rfl (gm (fk (fj (fj (gD (P3 rfl (gm (fk ?_)))))))))))
 cases a:(decide (deep≥40))
 simp only[decide_eq_true_eq,decide_eq_false_iff_not,ge_iff_le,Int.not_le] at a
 refine mm rfl (ml (fk (fj (gD (P2 rfl (vp (kv rfl rfl rfl (by omega) (by omega)) rfl (P1 rfl (Z E0 E2 rfl (gm (fk (fj (gD (P2 rfl (vp (kv (c:=((I+1:Nat):Int)) rfl rfl (by omega) (by omega) (by omega)) rfl (P1 rfl (Z E0 E1 rfl (gm (fk (fj (gD (P1 rfl (O E1 rfl (gm (fk (o6 (ww 1 ?_))))))))))))))))))))))))))
 rotate_left
 simp only[decide_eq_true_eq,decide_eq_false_iff_not,ge_iff_le,Int.not_le] at a
 refine mU rfl (fj (gD (P1 rfl ?_)))
 refine be (m5 b (⟨I,deep,bad,l,c⟩:Rd)) m4 rfl rfl ?_
 rintro _ rfl
 refine O E1 rfl (gm (fk (o6 (yR (ww 1 ?_)))))
 rotate_left
 any_goals
  refine uw 1 ?_
  refine dN results60 (aK rfl rfl dr) (eH _) ⟨rfl,rfl,?_⟩
  simp only[lE];first|(rw[if_pos (by omega)];simp_all [rdv];done)|(rw[if_neg (by omega)];simp[rdv])
theorem ta(a:cE ah aA ae ax)(r:Rd)(kind:Int)(b:r.I≤100000):bd 61 [rdv aA ae ax r,zI kind] ah fun v R'=>R'=ah∧v= .tuple #[rdv aA ae ax (k4 ax r kind).1,.string (k4 ax r kind).2]:=by
 obtain⟨I,deep,bad,l,c⟩:=r
 try dsimp only at*
 refine b5 func61 rfl ntmps61 rfl rfl fun w G ad=> ?_
 refine sV 10 rfl ?_
 refine be (gq a (⟨I,deep,bad,l,c⟩:Rd)) eZ rfl rfl ?_
 rintro _ rfl
 try dsimp only[rdv]
 refine rL 10 rfl ?_
 cases d:(bad)
 refine rL 7 rfl ?_
 cases e:(((aZ ax I).k) !=kind)
 refine rV 7 rfl (vp (bA rfl rfl (by omega)) rfl (rL 5 rfl ?_))
 refine bZ mixed (fun k=>k==0||k==2) fun aq=> ?_
 refine bL [0,1,2,1003,4] rfl (by kernel_rfl) id (bS (by kernel_rfl) (rD 2 rfl ?_))
 refine cB results61 (aK rfl rfl dr) (aT rfl) ⟨rfl,rfl,?_⟩
 simp_all [k4,rdv]
 refine rV 4 rfl ?_
 refine be (m5 a (⟨I,deep,false,l,c⟩:Rd)) m4 rfl rfl ?_
 refine ww 1 ?_
 rotate_left
 refine rL 11 rfl ?_
 refine be (m5 a (⟨I,deep,true,l,c⟩:Rd)) m4 rfl rfl ?_
 refine ww 1 ?_
 rotate_left
 any_goals
  refine uw 1 ?_
  rintro _ rfl
  try dsimp only[rdv]
  refine rL 6 rfl ?_
  refine cB results61 (aK rfl rfl dr) (aT rfl) ⟨rfl,rfl,?_⟩
  simp_all [k4,rdv]
def qQ (e:Ex):Value:=match e with| .mk k s n _ l c=> .agg #[.int .i64 k,.string s,.int .i64 n,.slice none 0 0,.int .i64 l,.int .i64 c]
theorem qR(a:cE ah aA ae ax)(r:Rd)(b:r.I≤100000):bd 87 [rdv aA ae ax r] ah fun v R'=>R'=ah∧v= .tuple #[rdv aA ae ax (hA ax r).1,qQ (hA ax r).2]:=by
 obtain⟨I,deep,bad,l,c⟩:=r
 try dsimp only at*
 refine b5 func87 rfl ntmps87 rfl rfl fun w G ad=> ?_
 refine sV 10 rfl ?_
 refine be (gq a (⟨I,deep,bad,l,c⟩:Rd)) eZ rfl rfl ?_
 rintro _ rfl
 try dsimp only[rdv]
 refine rL 11 rfl ?_
 cases d:(bad)
 refine rV 16 rfl ?_
 cases e:(((aZ ax I).k)==2)
 refine rV 7 rfl ?_
 cases f:(((aZ ax I).k)==3)
 refine rV 7 rfl ?_
 cases g:(((aZ ax I).k)==4)
 refine ww 1 ?_
 rotate_left
 refine rV 5 rfl (vp (bA rfl rfl (by omega)) rfl (rL 5 rfl ?_))
 refine bZ mixed (fun k=>k==0||k==3) fun aq=> ?_
 refine bL [0,1,2,3,4] rfl (by kernel_rfl) id (vt 5 rfl (bJ (vs:=[(0,zI 3),(2,zI ((aZ ax I).n)),(4,.agg #[zI ((aZ ax I).l),zI ((aZ ax I).c)])]) (v:= .agg #[zI 3,.string ⟨#[]⟩,zI ((aZ ax I).n),zS,zI ((aZ ax I).l),zI ((aZ ax I).c)]) rfl (fun W=>by kernel_rfl)) rfl (by kernel_rfl) id (bL [1006,1007] rfl (by kernel_rfl) id (bS (by kernel_rfl) (rD 3 rfl (ww 2 ?_)))))
 rotate_left
 refine rV 5 rfl (vp (bA rfl rfl (by omega)) rfl (rL 5 rfl ?_))
 refine bZ mixed (fun k=>k==0||k==3) fun aq=> ?_
 refine bL [0,1,2,3,4] rfl (by kernel_rfl) id (vt 5 rfl (bJ (vs:=[(0,zI 2),(1,.string (aZ ax I).t),(4,.agg #[zI ((aZ ax I).l),zI ((aZ ax I).c)])]) (v:= .agg #[zI 2,.string (aZ ax I).t,zI 0,zS,zI ((aZ ax I).l),zI ((aZ ax I).c)]) rfl (fun W=>by kernel_rfl)) rfl (by kernel_rfl) id (bL [1006,1007] rfl (by kernel_rfl) id (bS (by kernel_rfl) (rD 3 rfl (ww 2 ?_)))))
 rotate_left
 refine rV 5 rfl (vp (bA rfl rfl (by omega)) rfl (rL 5 rfl ?_))
 refine bZ mixed (fun k=>k==0||k==3) fun aq=> ?_
 refine bL [0,1,2,3,4] rfl (by kernel_rfl) id (vt 5 rfl (bJ (vs:=[(0,zI 1),(1,.string (aZ ax I).t),(4,.agg #[zI ((aZ ax I).l),zI ((aZ ax I).c)])]) (v:= .agg #[zI 1,.string (aZ ax I).t,zI 0,zS,zI ((aZ ax I).l),zI ((aZ ax I).c)]) rfl (fun W=>by kernel_rfl)) rfl (by kernel_rfl) id (bL [1006,1007] rfl (by kernel_rfl) id (bS (by kernel_rfl) (rD 3 rfl (ww 2 ?_)))))
 rotate_left
 refine ww 1 ?_
 rotate_left
 any_goals
  refine uw 1 ?_
  refine rV 4 rfl (vp (bJ (vs:=[]) (v:= .agg #[zI 0,.string ⟨#[]⟩,zI 0,zS,zI 0,zI 0]) rfl (fun W=>by kernel_rfl)) rfl (rL 6 rfl (ww 2 ?_)))
  rotate_left
 any_goals
  refine uw 2 ?_
  refine cB results87 (aK rfl rfl dr) (aK rfl rfl cY) ⟨rfl,rfl,?_⟩
  simp_all [hA,rdv,qQ,leaf]
theorem vw{R:Wd}(t:Tk):bd 101 [t.v] R fun v R'=>R'=R∧v= .bool (qs t):=by
 refine b5 func101 rfl ntmps101 rfl rfl fun w G ad=> ?_
 refine sV 12 rfl ?_
 cases a:(t.k==2)
 refine rL 5 rfl ?_
 cases b:(t.k==3)
 refine rL 5 rfl ?_
 cases c:(t.k==4)
 refine rL 4 rfl ?_
 cases d:(t.k==6)
 refine ww 1 ?_
 rotate_left
 refine ww 1 ?_
 rotate_left
 refine rL 13 rfl (ww 2 ?_)
 rotate_left
 refine rL 18 rfl (ww 2 ?_)
 rotate_left
 refine rL 23 rfl (ww 2 ?_)
 rotate_left
 any_goals
  refine uw 1 ?_
  refine rL 9 rfl (ww 2 ?_)
  rotate_left
 any_goals
  refine uw 2 ?_
  refine cH results101 (aT rfl) ⟨rfl,rfl,?_⟩
  simp_all [qs]
theorem zf{R:Wd}(s:BA):bd 85 [.string s] R fun v R'=>R'=R∧v=zI (sy s):=by
 refine b5 func85 rfl ntmps85 rfl rfl fun w G ad=> ?_
 refine sV 17 rfl ?_
 cases a:(s.toList==(⟨#[63]⟩:BA).toList)
 refine rV 8 rfl ?_
 cases b:(s.toList==(⟨#[61,61]⟩:BA).toList)
 refine rV 6 rfl ?_
 cases c:(s.toList==(⟨#[60]⟩:BA).toList)
 refine rV 8 rfl ?_
 cases d:(s.toList==(⟨#[43]⟩:BA).toList)
 refine rV 6 rfl ?_
 cases e:(s.toList==(⟨#[45]⟩:BA).toList)
 refine rV 7 rfl ?_
 cases f:(s.toList==(⟨#[42]⟩:BA).toList)
 refine ww 2 ?_
 rotate_left
 refine ww 2 ?_
 rotate_left
 refine ww 2 ?_
 rotate_left
 refine ww 1 ?_
 rotate_left
 refine ww 2 ?_
 rotate_left
 refine ww 1 ?_
 rotate_left
 refine ww 2 ?_
 rotate_left
 any_goals
  refine uw 1 ?_
  refine rV 11 rfl (ww 3 ?_)
  rotate_left
 any_goals
  refine uw 2 ?_
  refine rV 8 rfl (ww 3 ?_)
  rotate_left
 any_goals
  refine uw 3 ?_
  refine cH results85 (aT rfl) ⟨rfl,rfl,?_⟩
  simp_all [sy]
theorem cZ:c7 27 31 6:=by unfold c7;kernel_rfl
theorem n8:dO 27 31 6 72:=by unfold dO;kernel_rfl
theorem jB:aF 25:=by unfold aF;kernel_rfl
theorem ir:aF 28:=by unfold aF;kernel_rfl
theorem qS:aF 60:=by unfold aF;kernel_rfl
theorem qT:aF 87:=by unfold aF;kernel_rfl
theorem tb:aF 100:=by unfold aF;kernel_rfl
theorem vx:aF 101:=by unfold aF;kernel_rfl
theorem zg:prog.underlying 27=some (.slice 31):=by kernel_rfl
theorem vy{ts:List Tk}{r:Rd}(i:r.I≤ts.length)(h:(hA ts r).2.k≠0∨r.bad=true):en r (hA ts r).1 (hA ts r).2:=by
 have b:∀k s n l c,(leaf k s n l c).size=1:=fun k s n l c=>by rw[leaf,Ex.size_mk];rfl
 unfold en
 by_cases a:r.bad=true
 ·unfold hA
  rw[if_pos a]
  refine⟨a9 _,fun _=>⟨a,rfl,b _ _ _ _ _⟩,fun h=> ?_,?_⟩
  ·rw[a] at h;cases h
  ·rw[b];omega
 ·have h:=h.resolve_right a
  have g:(hA ts r).2.size=1:=by
   unfold hA
   repeat' split
   all_goals exact b _ _ _ _ _
  have f:(hA ts r).1.I=r.I+1:=by
   unfold hA at h⊢
   rw[if_neg a] at h⊢
   by_cases d:(aZ ts r.I).k=2
   ·rw[if_pos d]
   rw[if_neg d] at h⊢
   by_cases h3:(aZ ts r.I).k=3
   ·rw[if_pos h3]
   rw[if_neg h3] at h⊢
   by_cases e:(aZ ts r.I).k=4
   ·rw[if_pos e]
   rw[if_neg e] at h
   exact absurd rfl h
  rw[g,f]
  refine⟨by omega,fun h=>absurd h a,fun _=>⟨by omega,by omega⟩,by omega⟩
theorem vz{ts:List Tk}{r:Rd}(h:(hA ts r).2.k=0)(c:r.bad=false):(hA ts r).1=r:=by
 unfold hA at h⊢
 rw[c] at h⊢
 simp only[Bool.false_eq_true,↓reduceIte] at h⊢
 by_cases a:(aZ ts r.I).k=2
 ·rw[if_pos a] at h;simp[leaf,Ex.k] at h
 rw[if_neg a] at h⊢
 by_cases h3:(aZ ts r.I).k=3
 ·rw[if_pos h3] at h;simp[leaf,Ex.k] at h
 rw[if_neg h3] at h⊢
 by_cases b:(aZ ts r.I).k=4
 ·rw[if_pos b] at h;simp[leaf,Ex.k] at h
 rw[if_neg b]
theorem zh(ts:List Tk)(r:Rd)(a:r.bad=false)(k:Int)(s:BA)(n l c:Int):en r (hi ts r) (leaf k s n l c):=by
 have e:(leaf k s n l c).size=1:=by rw[leaf,Ex.size_mk];rfl
 have b:(hi ts r).bad=true:=by unfold hi;rw[a];rfl
 have d:(hi ts r).I=r.I:=by unfold hi;rw[a];rfl
 unfold en
 rw[b,d,e]
 refine⟨a9 _,fun h=> ?_,fun h=> ?_,?_⟩
 ·rw[a] at h;cases h
 ·cases h
 ·omega
def dz (ts:List Tk) (r:Rd):Prop:=r.I≤ts.length∧0≤r.deep∧r.deep≤40
def eu (r a:Rd):Prop:=r.I≤a.I∧(a.bad=true∨r.I<a.I)
def Mv (r a:Rd):Prop:=(a.bad=true∧a.I=r.I)∨(a.bad=false∧r.bad=false∧a.I=r.I+1)
theorem Mv.prog(h:Mv bY cO):eu bY cO:=by
 rcases h with⟨a,b⟩|⟨_,_,h3⟩
 ·exact⟨by omega,.inl a⟩
 ·exact⟨by omega,.inr (by omega)⟩
theorem eu.mv(h:eu bY cO)(g:Mv cO fQ):eu bY fQ:=by
 rcases g with⟨a,b⟩|⟨_,_,h3⟩
 ·exact⟨by have:=h.1;omega,.inl a⟩
 ·exact⟨by have:=h.1;omega,.inr (by have:=h.1;omega)⟩
theorem en.prog(h:en bY cO aM):eu bY cO:=by
 refine⟨h.1,?_⟩
 cases a:cO.bad with
 |true=>exact .inl rfl
 |false=>exact .inr (h.2.2.1 a).1
theorem eu.kz(h:eu bY cO)(g:en cO fQ aM):eu bY fQ:=by
 refine⟨dS h.1 g.1,?_⟩
 rcases h.2 with a|a
 ·exact .inl (g.2.1 a).1
 ·exact .inr (lA a g.1)
def jg (A:Option Addr) (cap:Nat) (ts:List Tk) (r:Rd) (v:Value) (R':World):Prop:=
 ∃(a:Rd) (e:Ex) (u:Value),v= .tuple #[rdv A cap ts a,u]∧dz ts a∧en r a e∧e.jy R' u
def qU (A:Option Addr) (cap:Nat) (ts:List Tk) (k:Nat):Prop:=
 ∀(R:World) (r:Rd),cE R A cap ts→dz ts r→(r.bad=true∨ts.length -r.I<k)→bd 25 [rdv A cap ts r] R (jg A cap ts r)
theorem qU.mx(h:qU aA ae ax ao)(c:cE ah aA ae ax)(b:dz ax cO)(d:eu bY cO)(e:ax.length -bY.I≤ao):bd 25 [rdv aA ae ax cO] ah (jg aA ae ax cO):=by
 refine h ah cO c b ?_
 rcases d.2 with a|a
 ·exact .inl a
 ·exact .inr (by have:=b.1;omega)
theorem m6(ts:List Tk)(r:Rd):Mv r (hi ts r)∧(hi ts r).deep=r.deep∧(hi ts r).bad=true:=by
 unfold hi
 by_cases a:r.bad=true
 ·rw[if_pos a];exact⟨.inl ⟨a,rfl⟩,rfl,a⟩
 ·rw[if_neg a];exact⟨.inl ⟨rfl,rfl⟩,rfl,rfl⟩
theorem pn(h:dz ax bY):dz ax (hi ax bY):=by
 unfold hi
 split
 ·exact h
 ·exact⟨h.1,h.2⟩
theorem jh{text:BA}(b:bi≠-1)(h:dz ax bY):Mv bY (gU ax bY bi text)∧dz ax (gU ax bY bi text):=by
 unfold gU
 by_cases a:gB ax bY bi text=true
 ·have:=jW b a
  rw[if_pos a]
  exact⟨.inr ⟨this.2,this.2,rfl⟩,by simp only[dz];exact⟨by omega,h.2⟩⟩
 ·rw[if_neg a]
  exact⟨(m6 ax bY).1,pn h⟩
theorem qV(h:dz ax bY)(a:bY.bad=false)(e:bY.I<ax.length):Mv bY (lE ax bY)∧dz ax (lE ax bY):=by
 obtain⟨c,d,h3⟩:=h
 unfold lE
 by_cases b:40≤bY.deep
 ·rw[if_pos b]
  exact⟨(m6 ax bY).1,pn ⟨c,d,h3⟩⟩
 ·rw[if_neg b]
  exact⟨.inr ⟨a,a,rfl⟩,by simp only[dz];omega⟩
theorem tc{ts:List Tk}(b:bi≠-1)(h:dz ts bY):Mv bY (k4 ts bY bi).1∧dz ts (k4 ts bY bi).1:=by
 unfold k4
 split
 ·exact⟨(m6 ts bY).1,pn h⟩
 ·rename_i a
  simp only[Bool.or_eq_true,not_or,Bool.not_eq_true,bne_eq_false_iff_eq] at a
  have:=nQ (ts:=ts) (I:=bY.I) (by rw[a.2];exact b)
  exact⟨.inr ⟨a.1,a.1,rfl⟩,by simp only[dz];exact⟨by omega,h.2⟩⟩
theorem vA(ts:List Tk)(r:Rd):∃k s n l c,(hA ts r).2=leaf k s n l c:=by
 unfold hA
 repeat' split
 all_goals exact⟨_,_,_,_,_,rfl⟩
theorem vB(h:dz ax bY):dz ax (hA ax bY).1:=by
 have b:∀x:Int,x≠-1→(aZ ax bY.I).k=x→bY.I<ax.length:=fun x d c=>nQ (by rw[c];exact d)
 unfold hA
 split
 ·exact h
 ·split
  ·rename_i a;exact⟨b 2 (by decide) a,h.2⟩
  ·split
   ·rename_i a;exact⟨b 3 (by decide) a,h.2⟩
   ·split
    ·rename_i a;exact⟨b 4 (by decide) a,h.2⟩
    ·exact h
theorem lN(k:Int)(s:BA)(n l c:Int)(R:Wd):(leaf k s n l c).jy R (.agg #[zI k,.string s,zI n,zS,zI l,zI c]):=
 ⟨none,0,rfl,⟨Nat.le_refl _,by simp,by simp,fun _=>rfl⟩,.inl rfl⟩
theorem zi{d:Int}(i:bY.bad=false)(a:Mv bY cO)(e:en cO fQ aM)(h3:Mv fQ h4):en bY {h4 with deep:=d} aM:=by
 obtain⟨g1,g2,c,j⟩:=e
 unfold en
 refine⟨?_,fun h=>absurd (i.symm.trans h) (by decide),fun h=> ?_,?_⟩
 ·rcases a with⟨_,a⟩|⟨_,_,a⟩<;>rcases h3 with⟨_,h3⟩|⟨_,_,h3⟩<;>simp only[h3]<;>omega
 ·simp only at h⊢
  rcases h3 with⟨f,h3⟩|⟨_,b,h3⟩
  ·rw[f] at h;cases h
  ·have k:=c b
   rcases a with⟨g,a⟩|⟨_,_,a⟩
   ·rw[(g2 g).1] at b;cases b
   ·omega
 ·simp only
  rcases a with⟨_,a⟩|⟨_,_,a⟩<;>rcases h3 with⟨_,h3⟩|⟨_,_,h3⟩<;>omega
theorem FO{ts:List Tk}(Z:qU aA ae ts ao)(R:Wd)(r:Rd)(a:cE R aA ae ts)(b:dz ts r)(av:ts.length -r.I≤ao):bd 100 [rdv aA ae ts r] R (jg aA ae ts r):=by
 obtain⟨I,deep,bad,l,c⟩:=r
 dsimp only at*
 have hlen:=a.len
 refine b5 func100 rfl ntmps100 rfl rfl fun w G ad=> ?_
 refine sV 10 rfl ?_
 refine be (qR a (⟨I,deep,bad,l,c⟩:Rd) (by have:=b.1;have:=a.len;omega)) qT rfl rfl ?_
 rintro _ x
 obtain⟨y,C,n1,B,n,q⟩:=vA ts (⟨I,deep,bad,l,c⟩:Rd)
 have e:=vB b
 have f:=fun h=>vy (ts:=ts) (r:=(⟨I,deep,bad,l,c⟩:Rd)) b.1 h
 have v:=fun h ap=>vz (ts:=ts) (r:=(⟨I,deep,bad,l,c⟩:Rd)) h ap
 obtain⟨⟨⟨I1,o,i,z,c1⟩,e1⟩,an⟩:∃X,X=hA ts (⟨I,deep,bad,l,c⟩:Rd):=⟨_,rfl⟩
 rw[←an] at x q e f v;dsimp only at x q e f v;subst q;subst x
 dsimp only[qQ,leaf]
 refine rL 16 rfl ?_
 cases H:(y !=0)
 have aw:y=0:=by simpa using H
 subst aw
 refine rL 5 rfl ?_
 cases J:(bad)
 subst J
 have ay:=v rfl rfl
 have u:(⟨I,deep,false,l,c⟩:Rd).bad=false:=rfl
 injection ay with q1 q2 q3 q4 q5;subst I1 o i z c1
 refine rV 7 rfl ?_
 refine be (hH a (⟨I,deep,false,l,c⟩:Rd) 6 (⟨#[40]⟩)) hG rfl rfl ?_
 rintro _ rfl
 refine rL 3 rfl ?_
 cases ar:(gB ts (⟨I,deep,false,l,c⟩:Rd) 6 (⟨#[40]⟩))
 refine rV 2 rfl ?_
 refine bZ mixed (fun ao=>ao==0||ao==4) fun aq=> ?_
 refine bL [0,2] rfl (by kernel_rfl) id (a7 [1] (by kernel_rfl) rfl ?_)
 refine dK rfl (m5 a (⟨I,deep,false,l,c⟩:Rd)) m4 rfl rfl ?_ bf
 rintro _ _ aI ⟨rfl,N⟩
 obtain⟨⟨aa,al,af,aC,ai⟩,s⟩:∃X,X=hi ts (⟨I,deep,false,l,c⟩:Rd):=⟨_,rfl⟩
 have K:=And.intro (m6 ts (⟨I,deep,false,l,c⟩:Rd)) (pn b)
 rw[←s] at K
 rw[←s] at N;subst N
 refine bL [1003,1004] rfl (by kernel_rfl) id (bS (by kernel_rfl) (rD 3 rfl ?_))
 refine cB results100 (aK rfl rfl dr) (aK rfl rfl cY) ⟨rfl,(⟨aa,al,af,aC,ai⟩:Rd),?_⟩
 refine⟨leaf 0 C n1 B n,_,rfl,K.2,?_,lN _ _ _ _ _ _⟩
 rw[s];exact zh ts _ u _ _ _ _ _
 have ax:I<ts.length:=(jW (by decide) ar).1
 refine rV 6 rfl ?_
 refine be (qP a (⟨I,deep,false,l,c⟩:Rd) (by have:=b.1;have:=a.len;omega) b.2.1) qS rfl rfl ?_
 rintro _ O
 obtain⟨⟨ab,am,ag,aD,c5⟩,E⟩:∃X,X=lE ts (⟨I,deep,false,l,c⟩:Rd):=⟨_,rfl⟩
 have d:=qV b u ax
 rw[←E] at d
 rw[←E] at O;subst O
 have M:eu (⟨I,deep,false,l,c⟩:Rd) (⟨ab,am,ag,aD,c5⟩:Rd):=Mv.prog d.1
 refine cN (Z.mx a d.2 M av) jB rfl rfl ?_
 rintro _ aF aB ⟨⟨g,p,j,A,m⟩,⟨S,V,U,W,T,D⟩,_,rfl,L,Q,Y,ak,rfl,au,az⟩
 have aH:eu (⟨I,deep,false,l,c⟩:Rd) (⟨g,p,j,A,m⟩:Rd):=M.kz Q
 refine rL 12 rfl ?_
 refine be (iq (bF a aB) (⟨g,p,j,A,m⟩:Rd) 6 (⟨#[41]⟩) (by have:=L.1;have:=a.len;omega)) ir rfl rfl ?_
 rintro _ P
 obtain⟨⟨ac,aG,ah,aE,aj⟩,F⟩:∃X,X=gU ts (⟨g,p,j,A,m⟩:Rd) 6 (⟨#[41]⟩):=⟨_,rfl⟩
 have t:=jh (text:=(⟨#[41]⟩)) (show(6:Int)≠-1 by decide) L
 rw[←F] at t
 rw[←F] at P;subst P
 refine rL 12 rfl ?_
 refine bZ mixed (fun ao=>ao==5||ao==6) fun aq=> ?_
 refine bL [0,1,1002,1003] rfl (by kernel_rfl) id (bS (by kernel_rfl) (rD 2 rfl ?_))
 refine cB results100 (aK rfl rfl dr) (aK rfl rfl cY) ⟨rfl,(⟨ac,deep,ah,aE,aj⟩:Rd),?_⟩
 refine⟨.mk S V U W T D,_,rfl,⟨t.2.1,b.2⟩,?_,(⟨Y,ak,rfl,au,az⟩:Ex.jy _ _ (.mk S V U W T D))⟩
 exact zi u d.1 Q t.1
 subst J
 refine rV 2 rfl ?_
 refine bZ mixed (fun ao=>ao==3||ao==4) fun aq=> ?_
 refine bL [0,1,1002,1003] rfl (by kernel_rfl) id (bS (by kernel_rfl) (rD 3 rfl ?_))
 refine cB results100 (aK rfl rfl dr) (aK rfl rfl cY) ⟨rfl,(⟨I1,o,i,z,c1⟩:Rd),?_⟩
 refine⟨leaf 0 C n1 B n,_,rfl,e,?_,lN _ _ _ _ _ _⟩
 exact f (.inr rfl)
 refine rL 7 rfl ?_
 refine bZ mixed (fun ao=>ao==3||ao==4) fun aq=> ?_
 refine bL [0,1,1002,1003] rfl (by kernel_rfl) id (bS (by kernel_rfl) (rD 3 rfl ?_))
 refine cB results100 (aK rfl rfl dr) (aK rfl rfl cY) ⟨rfl,(⟨I1,o,i,z,c1⟩:Rd),?_⟩
 refine⟨leaf y C n1 B n,_,rfl,e,?_,lN _ _ _ _ _ _⟩
 exact f (.inl (by simpa[leaf,Ex.k] using H))
theorem kA{k n l c:Int}{s:BA}(hh:oW aA cv.length ae)(a:eG ah aA cv):Ex.Cs ah (.mk k s n cv l c) [zI k,.string s,zI n,.slice aA cv.length ae,zI l,zI c]:=⟨aA,ae,rfl,hh,a⟩
theorem cd{g size n:Nat}(a:aj.length=n*size)(h:∀j u,aj[j]?=some u→ah.cell? ⟨g,j,none⟩=some u):Src ah size (some ⟨g,0,none⟩) n aj:=
 ⟨a,.inr ⟨g,0,rfl,fun j u hu=>by rw[Nat.zero_add];exact h j u hu⟩⟩
theorem Src.sub{R R':Wd}{size m:Nat}{A:OA}{xs:LV}(h:Src R size A m xs)(a:Sub R R'):Src R' size A m xs:=
 ⟨h.1,h.2.imp id fun⟨b,o,e,c⟩=>⟨b,o,e,fun j u hu=>a _ _ _ (c j u hu)⟩⟩
abbrev eL:=@Src.sub
def hj (r s:Rd) (es:List Ex):Prop:=
 r.I≤s.I∧(r.bad=true→s.bad=true∧s.I=r.I∧es.length=1∧aO es=1)∧(s.bad=false→r.I<s.I∧aO es+3*es.length≤4*(s.I -r.I))∧
   aO es+3*(es.length -1)≤4*(s.I -r.I)+4∧1≤es.length
theorem hj.one{e:Ex}(h:en bY cO e):hj bY cO [e]:=by
 obtain⟨c,b,h3,f⟩:=h
 have d:aO [e]=e.size:=by simp[aO]
 unfold hj
 rw[d]
 refine⟨c,fun a=>⟨(b a).1,(b a).2.1,rfl,(b a).2.2⟩,fun a=>⟨(h3 a).1,?_⟩,?_,?_⟩
 ·have:=(h3 a).2;simp only[List.length_singleton];omega
 ·simp only[List.length_singleton];omega
 ·simp
theorem zj:∀(a b:List Ex),aO (a++b)=aO a+aO b
 |[],b=>by simp[aO]
 |x::a,b=>by rw[List.cons_append,aO,aO,zj a b];omega
theorem hj.step{x:Ex}(h:hj bY cO cv)(a:cO.bad=false)(g:en cO fQ x):hj bY fQ (cv++ [x]):=by
 obtain⟨_,c,h3,_,j⟩:=h
 obtain⟨g1,_,b,i⟩:=g
 obtain⟨k,l⟩:=h3 a
 have f:aO (cv++ [x])=aO cv+x.size:=by rw[zj];simp[aO]
 unfold hj
 rw[f,List.length_append,List.length_singleton]
 refine⟨by omega,fun e=> ?_,fun d=> ?_,by omega,by omega⟩
 ·have:=(c e).1
  rw[a] at this;cases this
 ·have:=b d
  omega
theorem hj.len(h:hj bY cO cv)(d:cO.I≤ax.length)(c:ax.length≤10000):cv.length≤40004:=by
 have:=k1 cv
 obtain⟨a,_,_,b,_⟩:=h
 omega
theorem hj.zk(h:hj bY cO [aM]):en bY cO aM:=by
 obtain⟨d,b,h3,c,f⟩:=h
 have e:aO [aM]=aM.size:=by simp[aO]
 rw[e] at b h3 c
 simp only[List.length_singleton] at b h3 c
 exact⟨d,fun a=>⟨(b a).1,(b a).2.1,(b a).2.2.2⟩,fun a=>⟨(h3 a).1,by have:=(h3 a).2;omega⟩,by omega⟩
theorem hj.kz{k n l c:Int}(h:hj bY cO cv)(d:2≤cv.length):en bY cO (.mk k aY n cv l c):=by
 obtain⟨b,g2,h3,e,_⟩:=h
 unfold en
 rw[Ex.size_mk]
 refine⟨b,fun a=> ?_,fun a=>⟨(h3 a).1,by have:=(h3 a).2;omega⟩,by omega⟩
 have:=(g2 a).2.2.1
 omega
theorem hj.prog(h:hj bY cO cv):eu bY cO:=by
 refine⟨h.1,?_⟩
 cases a:cO.bad with
 |true=>exact .inl rfl
 |false=>exact .inr (h.2.2.1 a).1
def la (F:Nat) (arg:List Value) (A:Option Addr) (cap:Nat) (ts:List Tk) (k:Nat):Prop:=
 ∀(R:World) (r:Rd),cE R A cap ts→dz ts r→ts.length -r.I≤k→bd F (rdv A cap ts r::arg) R (jg A cap ts r)
theorem FP{k:Nat}(Z:la 100 [] aA ae ax k)(R:Wd)(r:Rd)(D:cE R aA ae ax)(aR:dz ax r)(a2:ax.length -r.I≤k):bd 84 [rdv aA ae ax r] R (jg aA ae ax r):=by
 obtain⟨I,deep,bad,l,c⟩:=r
 dsimp only at*
 refine b5 func84 rfl ntmps84 rfl rfl fun w G ad=> ?_
 refine sV 10 rfl ?_
 refine cN (Z _ _ D aR (by omega)) tb rfl rfl ?_
 rintro _ aX av ⟨⟨I1,aF,aC,aV,c1⟩,⟨z,A,n1,B,d,b⟩,_,rfl,aS,aU,K,M,rfl,al,ap⟩
 refine rL 12 rfl ?_
 refine et cZ rfl ?_
 intro aG ab Q aP
 refine rL 5 rfl ?_
 refine lK (ι:=Wd×Rd×List Ex×LV×OA×Nat) [2,3,4,5] 3 rfl (fun(y,g,es,xs,f,a)=>(⟨[(6,.val (.slice f es.length a))],[(98,[.slice aA ax.length ae,zI g.I,zI g.deep,.bool g.bad,zI g.l,zI g.c]),(31,[zI z,.string A,zI n1,.slice K B.length M,zI d,zI b])],[⟨.slice f es.length a,es.length,xs,31,6⟩]⟩,y,Sub ab y∧dz ax g∧hj ⟨I,deep,bad,l,c⟩ g es∧ee y es xs∧Src y 6 f es.length xs∧es.length≤a∧a≤9223372036854775807∧(f=none→a=0)∧es[0]?=some ((.mk z A n1 B d b):Ex),2*(ax.length -g.I)+(if g.bad then 0 else 1))) (ab,⟨I1,aF,aC,aV,c1⟩,[(.mk z A n1 B d b)],[zI z,.string A,zI n1,.slice K B.length M,zI d,zI b],(some ⟨aG,0,none⟩),1) rfl rfl [1] rfl ?_ ?_
 exact⟨sR,aS,hj.one aU,ee.single (⟨K,M,rfl,al,(eG.sub ap Q)⟩:Ex.Cs _ (.mk z A n1 B d b) _),cd rfl aP,a9 _,by decide,(fun h=>by cases h),rfl⟩
 rintro⟨y,⟨j,F,aD,J,E⟩,es,xs,f,a⟩ ⟨S,H,i,ak,aT,aQ,aN,aH,X⟩
 have ao:=hj.prog i
 show V _ _ _ ⟨_,_,_⟩ y
 refine rV 7 rfl ?_
 cases ah:(aD)
 subst ah
 refine rL 1 rfl (dJ rfl rfl rfl ?_)
 refine be (gq (bF (bF (bF D av) Q) S) (⟨j,F,false,J,E⟩:Rd)) eZ rfl rfl ?_
 rintro _ rfl
 refine dJ rfl rfl rfl ?_
 refine be (vw (aZ ax j)) vx rfl rfl ?_
 rintro _ rfl
 refine rL 3 rfl ?_
 cases a1:(qs (aZ ax j))
 refine rV 14 rfl ?_
 cases ag:((es.length:Int)==1)
 have O:¬es.length=1:=by have o:=ag;simp at o;omega
 refine rV 4 rfl ?_
 refine bZ mixed (fun k=>k==3||k==4) fun aq=> ?_
 refine bL [0,1,2,3] rfl (by kernel_rfl) id (vt 4 rfl (bJ (vs:=[(0,zI 4),(3,.slice f es.length a),(4,.agg #[zI d,zI b])]) (v:= .agg #[zI 4,.string ⟨#[]⟩,zI 0,.slice f es.length a,zI d,zI b]) rfl (fun W=>by kernel_rfl)) rfl (by kernel_rfl) id (bL [1005,1006] rfl (by kernel_rfl) id (bS (by kernel_rfl) (rD 2 rfl ?_))))
 refine cB results84 (aK rfl rfl dr) (aK rfl rfl cY) ⟨rfl,(⟨j,F,false,J,E⟩:Rd),?_⟩
 refine ww 2 ?_
 rotate_left
 have O:es.length=1:=by have o:=ag;simp at o;omega
 refine rV 2 rfl ?_
 refine bZ mixed (fun k=>k==3||k==4) fun aq=> ?_
 refine bL [0,1,1002,1003] rfl (by kernel_rfl) id (bS (by kernel_rfl) (rD 3 rfl ?_))
 refine cB results84 (aK rfl rfl dr) (aK rfl rfl cY) ⟨rfl,(⟨j,F,false,J,E⟩:Rd),?_⟩
 refine ww 1 ?_
 rotate_left
 refine rV 7 rfl ?_
 refine cN (Z _ _ (bF (bF (bF D av) Q) S) H (by have:=ao.1;dsimp only at this⊢;omega)) tb rfl rfl ?_
 rintro _ aW au ⟨⟨aa,af,U,aw,ac⟩,⟨p,x,t,C,q,m⟩,_,rfl,an,T,L,N,rfl,am,ar⟩
 have a4:eu (⟨I,deep,bad,l,c⟩:Rd) (⟨aa,af,U,aw,ac⟩:Rd):=ao.kz T
 refine rL 18 rfl ?_
 refine et cZ rfl ?_
 intro a0 az P aO
 refine gO ?_
 have a3:=i.len H.1 D.len
 refine gW (news:=[zI p,.string x,zI t,.slice L C.length N,zI q,zI m]) n8 rfl rfl (cd rfl aO) (fun h=>by cases h) (fun u hu=>Ex.Cs.one (w:=az) (e:= .mk p x t C q m) (c:=[zI p,.string x,zI t,.slice L C.length N,zI q,zI m]) ⟨L,N,rfl,am,(eG.sub ar P)⟩ u hu) (by omega) rfl rfl ?_
 intro ay aE aB Y aI aJ aL aM
 refine rL 3 rfl ?_
 rw[show es.length+1=(es++ [(.mk p x t C q m:Ex)]).length by simp]
 refine dR (aB,⟨aa,af,U,aw,ac⟩,es++ [.mk p x t C q m],xs++ [zI p,.string x,zI t,.slice L C.length N,zI q,zI m],ay,aE) rfl rfl [1] rfl ?_ ?_
 refine⟨S.trans (ai (ai au P) Y),an,i.step rfl T,?_,by simpa using aM,by simpa using aI,aJ,aL,?_⟩
 exact ee.append (ee.sub (ai (ai au P) Y) ak) (ee.single (kA (k:=p) (s:=x) (n:=t) (l:=q) (c:=m) am (eG.sub ar (ai P Y))))
 rw[List.getElem?_append_left (by have:=i.2.2.2.2;omega)];exact X
 dsimp only;have g1:=T.1;have g2:=T.2.2.1;dsimp only at g1 g2
 cases U with
 |true=>simp;omega
 |false=>have:=g2 rfl;have:=an.1;dsimp only at this;simp;omega
 subst ah
 refine rL 20 rfl ?_
 cases aj:((es.length:Int)==1)
 have O:¬es.length=1:=by have o:=aj;simp at o;omega
 refine rV 4 rfl ?_
 refine bZ mixed (fun k=>k==3||k==4) fun aq=> ?_
 refine bL [0,1,2,3] rfl (by kernel_rfl) id (vt 4 rfl (bJ (vs:=[(0,zI 4),(3,.slice f es.length a),(4,.agg #[zI d,zI b])]) (v:= .agg #[zI 4,.string ⟨#[]⟩,zI 0,.slice f es.length a,zI d,zI b]) rfl (fun W=>by kernel_rfl)) rfl (by kernel_rfl) id (bL [1005,1006] rfl (by kernel_rfl) id (bS (by kernel_rfl) (rD 2 rfl ?_))))
 refine cB results84 (aK rfl rfl dr) (aK rfl rfl cY) ⟨rfl,(⟨j,F,true,J,E⟩:Rd),?_⟩
 refine ww 2 ?_
 rotate_left
 have O:es.length=1:=by have o:=aj;simp at o;omega
 refine rV 2 rfl ?_
 refine bZ mixed (fun k=>k==3||k==4) fun aq=> ?_
 refine bL [0,1,1002,1003] rfl (by kernel_rfl) id (bS (by kernel_rfl) (rD 3 rfl ?_))
 refine cB results84 (aK rfl rfl dr) (aK rfl rfl cY) ⟨rfl,(⟨j,F,true,J,E⟩:Rd),?_⟩
 refine ww 1 ?_
 rotate_left
 any_goals
  refine uw 1 ?_
  obtain⟨aY,rfl⟩:=List.length_eq_one_iff.1 O
  simp only[List.getElem?_cons_zero,Option.some.injEq] at X
  subst X
  exact⟨_,_,rfl,H,i.zk,(Ex.jy.sub (Ex.jy.sub (⟨K,M,rfl,al,ap⟩:Ex.jy _ _ (.mk z A n1 B d b)) Q) S)⟩
 any_goals
  refine uw 2 ?_
  refine⟨.mk 4 ⟨#[]⟩ 0 es d b,_,rfl,H,i.kz (by have:=i.2.2.2.2;omega),f,a,rfl,⟨aQ,aN,by have:=i.len H.1 D.len;omega,aH⟩,eG.mQ aT ak⟩
theorem jC:aF 62:=by unfold aF;kernel_rfl
theorem vC:aF 84:=by unfold aF;kernel_rfl
theorem qW:aF 85:=by unfold aF;kernel_rfl
theorem po{n:Nat}(h:n≤490000000):oW (some zl) n n:=⟨a9 _,by omega,h,fun h=>(by cases h)⟩
theorem zm{e x:Ex}{k n l c:Int}(h:en bY cO e)(b:cO.bad=false)(g:en {cO with I:=cO.I+1} fQ x):en bY fQ (.mk k aY n [e,x] l c):=by
 obtain⟨_,f,h3,_⟩:=h
 obtain⟨g1,g2,a,d⟩:=g
 simp only at g1 g2 a d
 have m:=h3 b
 unfold en
 rw[Ex.size_mk]
 simp only[aO]
 refine⟨by omega,fun j=> ?_,fun i=> ?_,by omega⟩
 ·have:=(f j).1
  rw[b] at this;cases this
 ·have:=a i
  omega
theorem td{e x:Ex}{c1 c2:LV}(a:Ex.Cs ah e c1)(b:Ex.Cs ah x c2)(h:∀j u,(c1++c2)[j]?=some u→ah.cell? ⟨ae,j,none⟩=some u):eG ah (some ⟨ae,0,none⟩) [e,x]:=
 eG.mQ (cd (by rw[List.length_append,a.len,b.len];rfl) h) (ee.append (ee.single a) (ee.single b))
def zn (A:Option Addr) (cap:Nat) (ts:List Tk) (k:Nat):Prop:=
 ∀(m:Int) (R:World) (r:Rd),1≤m→m≤5→cE R A cap ts→dz ts r→ts.length -r.I<k→bd 62 [rdv A cap ts r,.int .i64 m] R (jg A cap ts r)
theorem tf{k:Nat}(n:Int)(aS:1≤n)(aU:n≤4)(al:la 62 [zI (n+1)] aA ae ax k)(af:zn aA ae ax k)(R:Wd)(r:Rd)(A:cE R aA ae ax)(aB:dz ax r)(az:ax.length -r.I≤k):bd 62 [rdv aA ae ax r,zI n] R (jg aA ae ax r):=by
 obtain⟨I,deep,bad,l,c⟩:=r
 dsimp only at*
 have hlen:=A.len
 try dsimp only[rdv]
 refine b5 func62 rfl ntmps62 rfl rfl fun w G ad=> ?_
 refine sV 14 rfl ?_
 cases au:(decide (n>4))
 refine rV 7 rfl (vp (kv rfl rfl rfl (by omega) (by omega)) rfl ?_)
 refine cN (al _ _ A aB az) jC rfl rfl ?_
 rintro _ ah ab ⟨⟨am,ar,an,aG,c2⟩,⟨aF,aJ,aI,aL,aH,ap⟩,_,rfl,aC,aE,ak,ao,rfl,ay,aD⟩
 try dsimp only[rdv]
 refine rL 10 rfl ?_
 refine lK (ι:=Wd×Rd×Int×BA×Int×List Ex×OA×Nat×Int×Int) [1,4,5,6,7] 3 rfl (fun(B,j,e,g,f,b,h,i,leq,d)=>(⟨[],[(98,[.slice aA ax.length ae,zI j.I,zI j.deep,.bool j.bad,zI j.l,zI j.c]),(31,[zI e,.string g,zI f,.slice h b.length i,zI leq,zI d])],[]⟩,B,Sub ah B∧dz ax j∧en ⟨I,deep,bad,l,c⟩ j (.mk e g f b leq d)∧oW h b.length i∧eG B h b,ax.length -j.I)) (ah,⟨am,ar,an,aG,c2⟩,aF,aJ,aI,aL,ak,ao,aH,ap) rfl rfl [] rfl ?_ ?_
 exact⟨sR,aC,aE,ay,(eG.sub aD sR)⟩
 rintro⟨B,⟨a,D,ai,E,C⟩,e,g,f,b,h,i,leq,d⟩ ⟨M,J,z,H,K⟩
 show V _ _ _ ⟨_,_,_⟩ B
 refine rV 4 rfl ?_
 refine be (gq (bF (bF A ab) M) (⟨a,D,ai,E,C⟩:Rd)) eZ rfl rfl ?_
 rintro _ rfl
 try dsimp only[rdv]
 refine rL 10 rfl ?_
 cases aj:(ai)
 subst aj
 try dsimp only[rdv]
 refine rL 5 rfl ?_
 cases av:(((aZ ax a).k) !=6)
 have aR:a<ax.length:=nQ (by rw[show(aZ ax a).k=6 by simpa using av];decide)
 try dsimp only[rdv]
 refine rL 2 rfl (dJ rfl rfl rfl ?_)
 refine be (zf ((aZ ax a).t)) qW rfl rfl ?_
 rintro _ rfl
 try dsimp only[rdv]
 refine rL 5 rfl ?_
 cases aQ:((sy ((aZ ax a).t)) !=n)
 refine rV 7 rfl (vp (bA rfl rfl (by omega)) rfl (rL 7 rfl (vp (kv rfl rfl rfl (by omega) (by omega)) rfl (rL 10 rfl ?_))))
 cases aw:(n==1)
 have aT:¬n=1:=by simpa using aw
 try dsimp only[rdv]
 refine rV 7 rfl ?_
 refine cN (af (n+1) _ (⟨a+1,D,false,E,C⟩:Rd) (by omega) (by omega) (bF (bF A ab) M) ⟨by dsimp only;omega,J.2⟩ (by have:=z.1;dsimp only at this⊢;omega)) jC rfl rfl ?_
 rintro _ aN L ⟨⟨P,U,Q,ac,S⟩,⟨p,x,u,F,q,m⟩,_,rfl,Z,N,O,T,rfl,Y,aa⟩
 try dsimp only[rdv]
 refine rL 21 rfl ?_
 refine et cZ rfl ?_
 intro o ag y X
 try dsimp only[rdv]
 refine rL 2 rfl (vp (bJ (vs:=[(0,zI 5),(1,.string (aZ ax a).t),(3,.slice (some ⟨o,0,none⟩) 2 2),(4,.agg #[zI ((aZ ax a).l),zI ((aZ ax a).c)])]) (v:= .agg #[zI 5,.string (aZ ax a).t,zI 0,.slice (some ⟨o,0,none⟩) 2 2,zI ((aZ ax a).l),zI ((aZ ax a).c)]) rfl (fun W=>by kernel_rfl)) rfl (rL 9 rfl ?_))
 cases aP:(decide (n≤2))
 refine ww 2 ?_
 rotate_left
 refine ww 1 ?_
 rotate_left
 try dsimp only[rdv]
 refine rV 9 rfl ?_
 refine cN (af 1 _ (⟨a+1,D,false,E,C⟩:Rd) (by omega) (by omega) (bF (bF A ab) M) ⟨by dsimp only;omega,J.2⟩ (by have:=z.1;dsimp only at this⊢;omega)) jC rfl rfl ?_
 rintro _ aM L ⟨⟨P,U,Q,ac,S⟩,⟨p,x,u,F,q,m⟩,_,rfl,Z,N,O,T,rfl,Y,aa⟩
 try dsimp only[rdv]
 refine rL 21 rfl ?_
 refine et cZ rfl ?_
 intro o ag y X
 try dsimp only[rdv]
 refine rL 2 rfl (vp (bJ (vs:=[(0,zI 5),(1,.string (aZ ax a).t),(3,.slice (some ⟨o,0,none⟩) 2 2),(4,.agg #[zI ((aZ ax a).l),zI ((aZ ax a).c)])]) (v:= .agg #[zI 5,.string (aZ ax a).t,zI 0,.slice (some ⟨o,0,none⟩) 2 2,zI ((aZ ax a).l),zI ((aZ ax a).c)]) rfl (fun W=>by kernel_rfl)) rfl (rL 9 rfl ?_))
 cases aO:(decide (n≤2))
 refine ww 2 ?_
 rotate_left
 refine ww 1 ?_
 rotate_left
 refine rV 2 rfl (ww 3 ?_)
 rotate_left
 refine rL 10 rfl (ww 3 ?_)
 rotate_left
 subst aj
 try dsimp only[rdv]
 refine rL 15 rfl ?_
 refine bZ mixed (fun k=>k==3||k==4) fun aq=> ?_
 refine bL [0,1,1002,1003] rfl (by kernel_rfl) id (bS (by kernel_rfl) (rD 6 rfl ?_))
 refine cB results62 (aK rfl rfl dr) (aK rfl rfl cY) ⟨rfl,(⟨a,D,true,E,C⟩:Rd),?_⟩
 exact⟨.mk e g f b leq d,_,rfl,J,z,⟨h,i,rfl,H,eG.sub K sR⟩⟩
 simp only[decide_eq_true_eq,decide_eq_false_iff_not] at au;omega
 any_goals
  refine uw 1 ?_
  refine rV 2 rfl ?_
  refine bZ mixed (fun k=>k==3||k==4) fun aq=> ?_
  refine bL [0,1,1002,1003] rfl (by kernel_rfl) id (bS (by kernel_rfl) (rD 5 rfl ?_))
  refine cB results62 (aK rfl rfl dr) (aK rfl rfl cY) ⟨rfl,(⟨P,U,Q,ac,S⟩:Rd),?_⟩
  try dsimp only
  exact⟨.mk 5 (aZ ax a).t 0 [.mk e g f b leq d,.mk p x u F q m] ((aZ ax a).l) ((aZ ax a).c),_,rfl,Z,zm z rfl N,⟨some ⟨o,0,none⟩,2,rfl,po (by simp),td (c1:=[zI e,.string g,zI f,.slice h b.length i,zI leq,zI d]) (c2:=[zI p,.string x,zI u,.slice O F.length T,zI q,zI m]) (⟨h,i,rfl,H,eG.sub K (Sub.trans L y)⟩:Ex.Cs _ (.mk e g f b leq d) _) (kA (k:=p) (s:=x) (n:=u) (l:=q) (c:=m) Y (eG.sub aa y)) X⟩⟩
 any_goals
  refine uw 2 ?_
  refine rV 3 rfl ?_
  refine dR (ag,⟨P,U,Q,ac,S⟩,5,(aZ ax a).t,0,[.mk e g f b leq d,.mk p x u F q m],(some ⟨o,0,none⟩),2,(aZ ax a).l,(aZ ax a).c) rfl rfl [] rfl ?_ ?_
  try dsimp only
  exact⟨M.trans (Sub.trans L y),Z,zm z rfl N,po (by simp),td (c1:=[zI e,.string g,zI f,.slice h b.length i,zI leq,zI d]) (c2:=[zI p,.string x,zI u,.slice O F.length T,zI q,zI m]) (⟨h,i,rfl,H,eG.sub K (Sub.trans L y)⟩:Ex.Cs _ (.mk e g f b leq d) _) (kA (k:=p) (s:=x) (n:=u) (l:=q) (c:=m) Y (eG.sub aa y)) X⟩
  dsimp only;have:=N.1;dsimp only at this;omega
 any_goals
  refine uw 3 ?_
  refine bZ mixed (fun k=>k==3||k==4) fun aq=> ?_
  refine bL [0,1,1002,1003] rfl (by kernel_rfl) id (bS (by kernel_rfl) (rD 6 rfl ?_))
  refine cB results62 (aK rfl rfl dr) (aK rfl rfl cY) ⟨rfl,(⟨a,D,false,E,C⟩:Rd),?_⟩
  exact⟨.mk e g f b leq d,_,rfl,J,z,⟨h,i,rfl,H,eG.sub K sR⟩⟩
theorem FQ(h:la 84 [] aA ae ax ao)(R:Wd)(r:Rd)(i:cE R aA ae ax)(p:dz ax r)(o:ax.length -r.I≤ao):bd 62 [rdv aA ae ax r,zI 5] R (jg aA ae ax r):=by
 obtain⟨I,deep,bad,l,c⟩:=r
 dsimp only at*
 refine b5 func62 rfl ntmps62 rfl rfl fun w G ad=> ?_
 refine sV 18 rfl ?_
 refine cN (h _ _ i p o) vC rfl rfl ?_
 rintro _ v _ ⟨⟨I1,m,j,u,c1⟩,⟨b,e,n1,f,d,a⟩,_,rfl,q,t,g,k,rfl,n,s⟩
 refine rL 8 rfl ?_
 refine cB results62 (aK rfl rfl dr) (aK rfl rfl cY) ⟨rfl,(⟨I1,m,j,u,c1⟩:Rd),?_⟩
 exact⟨.mk b e n1 f d a,_,rfl,q,t,(⟨g,k,rfl,n,s⟩:Ex.jy _ _ (.mk b e n1 f d a))⟩
theorem FR:cr 27 false 1:=by unfold cr;kernel_rfl
theorem tg:aF 61:=by unfold aF;kernel_rfl
def bn (b:Bool):Nat:=if b then 1 else 0
theorem gX(b:Bool):bn b≤1:=by cases b<;>decide
theorem lO:bn ca=1↔ca=true:=by cases ca<;>simp[bn]
theorem lP:bn ca=0↔ca=false:=by cases ca<;>simp[bn]
theorem Mv.nat(h:Mv bY cO):(bn cO.bad=1∧cO.I=bY.I)∨(bn cO.bad=0∧bn bY.bad=0∧cO.I=bY.I+1):=by
 unfold Mv at h
 rw[lO,lP,lP]
 exact h
theorem qX:en bY cO aM↔bY.I≤cO.I∧(bn bY.bad=1→bn cO.bad=1∧cO.I=bY.I∧aM.size=1)∧(bn cO.bad=0→bY.I<cO.I∧aM.size+3≤4*(cO.I -bY.I))∧aM.size≤4*(cO.I -bY.I)+4:=by
 unfold en
 rw[lO,lP,lO]
theorem FT{x:Ex}{k n l c d:Int}(e:bY.bad=false)(a:Mv bY cO)(b:Mv cO fQ)(h3:Mv {fQ with I:=fQ.I+1} h4)(g:en h4 m7 x)(f:fQ.bad=false):en bY {m7 with deep:=d} (.mk k aY n [x] l c):=by
 have a:=a.nat
 have b:=b.nat
 have h3:=h3.nat
 rw[qX] at g⊢
 have e:=lP.2 e
 have f:=lP.2 f
 simp only[Ex.size_mk,aO] at*
 have:=gX m7.bad
 have:=gX h4.bad
 omega
theorem FU{w x:Ex}{k n l c d:Int}(f:bY.bad=false)(a:Mv bY cO)(b:Mv cO fQ)(h3:Mv fQ h4)(g:en h4 m7 w)(e:Mv m7 qY)(h:en qY qZ x):en bY {qZ with deep:=d} (.mk k aY n [w,x] l c):=by
 have a:=a.nat
 have b:=b.nat
 have h3:=h3.nat
 have e:=e.nat
 rw[qX] at g h⊢
 have f:=lP.2 f
 simp only[Ex.size_mk,aO] at*
 have:=gX qZ.bad
 have:=gX m7.bad
 have:=gX h4.bad
 have:=gX qY.bad
 omega
theorem zo{w x y:Ex}{k n l c d:Int}(e:bY.bad=false)(a:Mv bY cO)(f:en cO fQ w)(h3:Mv fQ h4)(g:en h4 m7 x)(b:Mv m7 qY)(h:en qY qZ y):en bY {qZ with deep:=d} (.mk k aY n [w,x,y] l c):=by
 have a:=a.nat
 have h3:=h3.nat
 have b:=b.nat
 rw[qX] at f g h⊢
 have e:=lP.2 e
 simp only[Ex.size_mk,aO] at*
 have:=gX qZ.bad
 have:=gX m7.bad
 have:=gX h4.bad
 have:=gX qY.bad
 have:=gX fQ.bad
 have:=gX cO.bad
 omega
theorem zp{e x y:Ex}{c1 c2 c3:LV}(a:Ex.Cs ah e c1)(b:Ex.Cs ah x c2)(h3:Ex.Cs ah y c3)(h:∀j u,(c1++(c2++c3))[j]?=some u→ah.cell? ⟨ae,j,none⟩=some u):eG ah (some ⟨ae,0,none⟩) [e,x,y]:=
 eG.mQ (cd (by rw[List.length_append,List.length_append,a.len,b.len,h3.len];rfl) h) (ee.append (ee.single a) (ee.append (ee.single b) (ee.single h3)))
theorem zq{k n l c:Int}(a:bY.bad=true):en bY bY (.mk k aY n [] l c):=by
 unfold en
 rw[Ex.size_mk]
 refine⟨Nat.le_refl _,fun _=>⟨a,rfl,rfl⟩,fun h=> ?_,by simp[aO]⟩
 rw[a] at h;cases h
theorem zr(R:Wd)(r:Rd)(b:cE R aA ae ax)(e:dz ax r)(d:r.bad=true):bd 25 [rdv aA ae ax r] R (jg aA ae ax r):=by
 obtain⟨I,deep,bad,l,c⟩:=r
 dsimp only at*
 refine b5 func25 rfl ntmps25 rfl rfl fun w G ad=> ?_
 refine sV 10 rfl ?_
 refine be (gq b (⟨I,deep,bad,l,c⟩:Rd)) eZ rfl rfl ?_
 rintro _ rfl
 refine vp (mj (ds:=#[zI ((aZ ax I).l),zI ((aZ ax I).c)]) rfl mw rfl) rfl (rL 24 rfl ?_)
 cases a:(bad)
 cases d.symm.trans a
 subst a
 refine rV 2 rfl ?_
 refine bZ mixed (fun k=>k==0||k==4) fun aq=> ?_
 refine bL [0,1,1002,1003] rfl (by kernel_rfl) id (bS (by kernel_rfl) (rD 3 rfl ?_))
 refine cB results25 (aK rfl rfl dr) (aK rfl rfl cY) ⟨rfl,(⟨I,deep,true,l,c⟩:Rd),?_⟩
 exact⟨.mk 0 ⟨#[]⟩ 0 [] 0 0,_,rfl,e,zq rfl,lN _ _ _ _ _ _⟩
theorem FV{k:Nat}(p:qU aA ae ax k)(cj:la 62 [zI 1] aA ae ax k)(R:Wd)(r:Rd)(a:cE R aA ae ax)(b:dz ax r)(o:ax.length -r.I≤k):bd 25 [rdv aA ae ax r] R (jg aA ae ax r):=by
 obtain⟨I,deep,bad,l,c⟩:=r
 dsimp only at*
 have hlen:=a.len
 try dsimp only[rdv]
 refine b5 func25 rfl ntmps25 rfl rfl fun w G ad=> ?_
 refine sV 10 rfl ?_
 refine be (gq a (⟨I,deep,bad,l,c⟩:Rd)) eZ rfl rfl ?_
 rintro _ rfl
 try dsimp only[rdv]
 refine vp (mj (ds:=#[zI ((aZ ax I).l),zI ((aZ ax I).c)]) rfl mw rfl) rfl (rL 24 rfl ?_)
 cases bs:(bad)
 subst bs
 have z:(⟨I,deep,false,l,c⟩:Rd).bad=false:=rfl
 try dsimp only[rdv]
 refine rV 4 rfl ?_
 refine be (hH a (⟨I,deep,false,l,c⟩:Rd) 5 (⟨#[108,101,116]⟩)) hG rfl rfl ?_
 rintro _ rfl
 try dsimp only[rdv]
 refine rL 3 rfl ?_
 cases dd:(gB ax (⟨I,deep,false,l,c⟩:Rd) 5 (⟨#[108,101,116]⟩))
 refine rV 4 rfl ?_
 refine be (hH a (⟨I,deep,false,l,c⟩:Rd) 5 (⟨#[105,102]⟩)) hG rfl rfl ?_
 rintro _ rfl
 try dsimp only[rdv]
 refine rL 3 rfl ?_
 cases de:(gB ax (⟨I,deep,false,l,c⟩:Rd) 5 (⟨#[105,102]⟩))
 refine rV 4 rfl ?_
 refine cN (cj _ _ a b o) jC rfl rfl ?_
 rintro _ d3 _ ⟨⟨cr,c4,cD,dP,cO⟩,⟨b6,ce,cb,cf,b9,bj⟩,_,rfl,dn,dG,ci,cQ,rfl,dl,dC⟩
 try dsimp only[rdv]
 refine rL 8 rfl ?_
 refine cB results25 (aK rfl rfl dr) (aK rfl rfl cY) ⟨rfl,(⟨cr,c4,cD,dP,cO⟩:Rd),?_⟩
 exact⟨.mk b6 ce cb cf b9 bj,_,rfl,dn,dG,(⟨ci,cQ,rfl,dl,dC⟩:Ex.jy _ _ (.mk b6 ce cb cf b9 bj))⟩
 have j:=jW (by decide) de;dsimp only at j
 have j:=j.1
 try dsimp only[rdv]
 refine rV 4 rfl ?_
 refine be (qP a (⟨I,deep,false,l,c⟩:Rd) (by have:=b.1;have:=a.len;omega) b.2.1) qS rfl rfl ?_
 rintro _ bX
 obtain⟨⟨cn,cV,cy,dL,cJ⟩,bo⟩:∃X,X=lE ax (⟨I,deep,false,l,c⟩:Rd):=⟨_,rfl⟩
 have Q:=qV b z j
 rw[←bo] at Q
 rw[←bo] at bX;subst bX
 have bG:eu (⟨I,deep,false,l,c⟩:Rd) (⟨cn,cV,cy,dL,cJ⟩:Rd):=Mv.prog Q.1
 try dsimp only[rdv]
 refine cN (p.mx a Q.2 bG o) jB rfl rfl ?_
 rintro _ dY ak ⟨⟨aB,aP,aF,a3,aI⟩,⟨A,L,H,ap,D,q⟩,_,rfl,bB,aY,a5,bc,rfl,bu,bK⟩
 have dv:eu (⟨I,deep,false,l,c⟩:Rd) (⟨aB,aP,aF,a3,aI⟩:Rd):=bG.kz aY
 try dsimp only[rdv]
 refine rL 12 rfl ?_
 refine be (iq (bF a ak) (⟨aB,aP,aF,a3,aI⟩:Rd) 5 (⟨#[116,104,101,110]⟩) (by have:=bB.1;have:=a.len;omega)) ir rfl rfl ?_
 rintro _ bY
 obtain⟨⟨co,cW,cz,dM,cK⟩,bp⟩:∃X,X=gU ax (⟨aB,aP,aF,a3,aI⟩:Rd) 5 (⟨#[116,104,101,110]⟩):=⟨_,rfl⟩
 have S:=jh (text:=(⟨#[116,104,101,110]⟩)) (show(5:Int)≠-1 by decide) bB
 rw[←bp] at S
 rw[←bp] at bY;subst bY
 have bH:eu (⟨I,deep,false,l,c⟩:Rd) (⟨co,cW,cz,dM,cK⟩:Rd):=dv.mv S.1
 try dsimp only[rdv]
 refine cN (p.mx (bF a ak) S.2 bH o) jB rfl rfl ?_
 rintro _ dZ al ⟨⟨aC,aQ,aG,a4,aJ⟩,⟨B,M,J,ar,E,t⟩,_,rfl,bC,a0,a6,bg,rfl,bv,bM⟩
 have dx:eu (⟨I,deep,false,l,c⟩:Rd) (⟨aC,aQ,aG,a4,aJ⟩:Rd):=bH.kz a0
 try dsimp only[rdv]
 refine rL 12 rfl ?_
 refine be (iq (bF (bF a ak) al) (⟨aC,aQ,aG,a4,aJ⟩:Rd) 5 (⟨#[101,108,115,101]⟩) (by have:=bC.1;have:=a.len;omega)) ir rfl rfl ?_
 rintro _ b0
 obtain⟨⟨cp,cX,cA,dN,cL⟩,bq⟩:∃X,X=gU ax (⟨aC,aQ,aG,a4,aJ⟩:Rd) 5 (⟨#[101,108,115,101]⟩):=⟨_,rfl⟩
 have T:=jh (text:=(⟨#[101,108,115,101]⟩)) (show(5:Int)≠-1 by decide) bC
 rw[←bq] at T
 rw[←bq] at b0;subst b0
 have dy:eu (⟨I,deep,false,l,c⟩:Rd) (⟨cp,cX,cA,dN,cL⟩:Rd):=dx.mv T.1
 try dsimp only[rdv]
 refine cN (p.mx (bF (bF a ak) al) T.2 dy o) jB rfl rfl ?_
 rintro _ d0 am ⟨⟨a9,d7,ba,b7,bb⟩,⟨C,N,K,au,F,x⟩,_,rfl,bD,b3,a8,bh,rfl,bw,bN⟩
 try dsimp only[rdv]
 refine rL 17 rfl ?_
 refine bZ mixed (fun k=>k==3||k==6||k==8||k==9||k==10) fun aq=> ?_
 refine bL [0,1,2,3,5] rfl (by kernel_rfl) id (a7 [4,7] (by kernel_rfl) rfl ?_)
 refine eW cZ rfl ?_ ?_
 intro aR d1 aW di
 try dsimp only[rdv]
 refine vt 6 rfl (bJ (vs:=[(0,zI 6),(3,.slice (some ⟨aR,0,none⟩) 3 3),(4,.agg #[zI ((aZ ax I).l),zI ((aZ ax I).c)])]) (v:= .agg #[zI 6,.string ⟨#[]⟩,zI 0,.slice (some ⟨aR,0,none⟩) 3 3,zI ((aZ ax I).l),zI ((aZ ax I).c)]) rfl (fun W=>by kernel_rfl)) rfl (by kernel_rfl) id (bL [1007,1008] rfl (by kernel_rfl) id (bS (by kernel_rfl) (rD 3 rfl ?_)))
 refine cB results25 (aK rfl rfl dr) (aK rfl rfl cY) ⟨rfl,(⟨a9,deep,ba,b7,bb⟩:Rd),?_⟩
 refine⟨.mk 6 (⟨#[]⟩) 0 [.mk A L H ap D q,.mk B M J ar E t,.mk C N K au F x] ((aZ ax I).l) ((aZ ax I).c),_,rfl,⟨bD.1,b.2⟩,zo z Q.1 aY S.1 a0 T.1 b3,⟨(some ⟨aR,0,none⟩),3,rfl,po (by simp),?_⟩⟩
 exact zp (kA (k:=A) (s:=L) (n:=H) (l:=D) (c:=q) bu (eG.sub bK (ai (ai al am) aW))) (kA (k:=B) (s:=M) (n:=J) (l:=E) (c:=t) bv (eG.sub bM (ai am aW))) (kA (k:=C) (s:=N) (n:=K) (l:=F) (c:=x) bw (eG.sub bN aW)) (c1:=[zI A,.string L,zI H,.slice a5 ap.length bc,zI D,zI q]) (c2:=[zI B,.string M,zI J,.slice a6 ar.length bg,zI E,zI t]) (c3:=[zI C,.string N,zI K,.slice a8 au.length bh,zI F,zI x]) di
 refine FM rfl ?_ bf
 refine a7 [4] (by kernel_rfl) rfl ?_
 refine eW cZ rfl ?_ bf
 intro aS d2 aX dj
 try dsimp only[rdv]
 refine vt 6 rfl (bJ (vs:=[(0,zI 6),(3,.slice (some ⟨aS,0,none⟩) 3 3),(4,.agg #[zI ((aZ ax I).l),zI ((aZ ax I).c)])]) (v:= .agg #[zI 6,.string ⟨#[]⟩,zI 0,.slice (some ⟨aS,0,none⟩) 3 3,zI ((aZ ax I).l),zI ((aZ ax I).c)]) rfl (fun W=>by kernel_rfl)) rfl (by kernel_rfl) id (bL [1008] rfl (by kernel_rfl) id (bS (by kernel_rfl) (rD 3 rfl ?_)))
 refine cB results25 (aK rfl rfl dr) (aK rfl rfl cY) ⟨rfl,(⟨a9,deep,ba,b7,bb⟩:Rd),?_⟩
 refine⟨.mk 6 (⟨#[]⟩) 0 [.mk A L H ap D q,.mk B M J ar E t,.mk C N K au F x] ((aZ ax I).l) ((aZ ax I).c),_,rfl,⟨bD.1,b.2⟩,zo z Q.1 aY S.1 a0 T.1 b3,⟨(some ⟨aS,0,none⟩),3,rfl,po (by simp),?_⟩⟩
 exact zp (kA (k:=A) (s:=L) (n:=H) (l:=D) (c:=q) bu (eG.sub bK (ai (ai al am) aX))) (kA (k:=B) (s:=M) (n:=J) (l:=E) (c:=t) bv (eG.sub bM (ai am aX))) (kA (k:=C) (s:=N) (n:=K) (l:=F) (c:=x) bw (eG.sub bN aX)) (c1:=[zI A,.string L,zI H,.slice a5 ap.length bc,zI D,zI q]) (c2:=[zI B,.string M,zI J,.slice a6 ar.length bg,zI E,zI t]) (c3:=[zI C,.string N,zI K,.slice a8 au.length bh,zI F,zI x]) dj
 have j:=jW (by decide) dd;dsimp only at j
 have j:=j.1
 try dsimp only[rdv]
 refine rV 4 rfl ?_
 refine be (qP a (⟨I,deep,false,l,c⟩:Rd) (by have:=b.1;have:=a.len;omega) b.2.1) qS rfl rfl ?_
 rintro _ bU
 obtain⟨⟨I3,aO,aE,a2,c3⟩,bl⟩:∃X,X=lE ax (⟨I,deep,false,l,c⟩:Rd):=⟨_,rfl⟩
 have y:=qV b z j
 rw[←bl] at y
 rw[←bl] at bU;subst bU
 have dt:eu (⟨I,deep,false,l,c⟩:Rd) (⟨I3,aO,aE,a2,c3⟩:Rd):=Mv.prog y.1
 try dsimp only[rdv]
 refine be (ta a (⟨I3,aO,aE,a2,c3⟩:Rd) 2 (by have:=y.2.1;have:=a.len;omega)) tg rfl rfl ?_
 rintro _ bW
 obtain⟨⟨⟨I4,g,d,i,f⟩,an⟩,bn⟩:∃X,X=k4 ax (⟨I3,aO,aE,a2,c3⟩:Rd) 2:=⟨_,rfl⟩
 have m:=tc (show(2:Int)≠-1 by decide) y.2
 rw[←bn] at m
 rw[←bn] at bW;subst bW
 dsimp only at m
 have aT:eu (⟨I,deep,false,l,c⟩:Rd) (⟨I4,g,d,i,f⟩:Rd):=dt.mv m.1
 try dsimp only[rdv]
 refine rL 12 rfl (vp (bJ (vs:=[(0,zI 8),(1,.string an),(4,.agg #[zI ((aZ ax I).l),zI ((aZ ax I).c)])]) (v:= .agg #[zI 8,.string an,zI 0,zS,zI ((aZ ax I).l),zI ((aZ ax I).c)]) rfl (fun W=>by kernel_rfl)) rfl (rL 7 rfl ?_))
 refine be (hH a (⟨I4,g,d,i,f⟩:Rd) 5 (⟨#[102,114,101,101]⟩)) hG rfl rfl ?_
 rintro _ rfl
 try dsimp only[rdv]
 refine rL 2 rfl ?_
 cases df:(gB ax (⟨I4,g,d,i,f⟩:Rd) 5 (⟨#[102,114,101,101]⟩))
 refine rV 3 rfl (vp (bJ (vs:=[]) (v:= .agg #[zI 0,.string ⟨#[]⟩,zI 0,zS,zI 0,zI 0]) rfl (fun W=>by kernel_rfl)) rfl (rL 7 rfl ?_))
 refine be (iq a (⟨I4,g,d,i,f⟩:Rd) 6 (⟨#[61]⟩) (by have:=m.2.1;have:=a.len;omega)) ir rfl rfl ?_
 rintro _ bT
 obtain⟨⟨ck,cT,cv,dI,cG⟩,bk⟩:∃X,X=gU ax (⟨I4,g,d,i,f⟩:Rd) 6 (⟨#[61]⟩):=⟨_,rfl⟩
 have ag:=jh (text:=(⟨#[61]⟩)) (show(6:Int)≠-1 by decide) m.2
 rw[←bk] at ag
 rw[←bk] at bT;subst bT
 have bE:eu (⟨I,deep,false,l,c⟩:Rd) (⟨ck,cT,cv,dI,cG⟩:Rd):=aT.mv ag.1
 try dsimp only[rdv]
 refine cN (p.mx a ag.2 bE o) jB rfl rfl ?_
 rintro _ dU bQ ⟨⟨az,aN,aD,a1,aH⟩,⟨b4,cc,ca,dR,b8,bi⟩,_,rfl,bz,b2,dS,d5,rfl,dk,dB⟩
 have dq:eu (⟨I,deep,false,l,c⟩:Rd) (⟨az,aN,aD,a1,aH⟩:Rd):=bE.kz b2
 try dsimp only[rdv]
 refine rL 15 rfl ?_
 refine et cZ rfl ?_
 intro ea dV aU _
 try dsimp only[rdv]
 refine rL 7 rfl ?_
 refine be (iq (bF (bF a bQ) aU) (⟨az,aN,aD,a1,aH⟩:Rd) 5 (⟨#[105,110]⟩) (by have:=bz.1;have:=a.len;omega)) ir rfl rfl ?_
 rintro _ bV
 obtain⟨⟨cl,cU,cw,dJ,cH⟩,bm⟩:∃X,X=gU ax (⟨az,aN,aD,a1,aH⟩:Rd) 5 (⟨#[105,110]⟩):=⟨_,rfl⟩
 have ah:=jh (text:=(⟨#[105,110]⟩)) (show(5:Int)≠-1 by decide) bz
 rw[←bm] at ah
 rw[←bm] at bV;subst bV
 have du:eu (⟨I,deep,false,l,c⟩:Rd) (⟨cl,cU,cw,dJ,cH⟩:Rd):=dq.mv ah.1
 try dsimp only[rdv]
 refine cN (p.mx (bF (bF a bQ) aU) ah.2 du o) jB rfl rfl ?_
 rintro _ dW dE ⟨⟨cm,d6,cx,dK,cI⟩,⟨U,ab,aa,ao,Y,O⟩,_,rfl,dm,dF,aw,aL,rfl,bt,bI⟩
 try dsimp only[rdv]
 refine rL 14 rfl ?_
 refine et cZ rfl ?_
 intro eb cu aV dh
 try dsimp only[rdv]
 refine gO ?_
 refine gW (news:=[zI U,.string ab,zI aa,.slice aw ao.length aL,zI Y,zI O]) n8 rfl rfl (cd rfl dh) (fun h=>by cases h) (fun u hu=>Ex.Cs.one (w:=cu) (e:= .mk U ab aa ao Y O) (c:=[zI U,.string ab,zI aa,.slice aw ao.length aL,zI Y,zI O]) ⟨aw,aL,rfl,bt,(eG.sub bI aV)⟩ u hu) (by omega) rfl rfl ?_
 intro ch cS dX bR c9 da db dc
 try dsimp only[rdv]
 refine rL 12 rfl ?_
 refine bZ mixed (fun k=>k==4||k==7) fun aq=> ?_
 refine bL [0,1,1002,1003] rfl (by kernel_rfl) id (bS (by kernel_rfl) (rD 3 rfl ?_))
 refine cB results25 (aK rfl rfl dr) (aK rfl rfl cY) ⟨rfl,(⟨cm,deep,cx,dK,cI⟩:Rd),?_⟩
 refine⟨.mk 7 an 0 [.mk b4 cc ca dR b8 bi,.mk U ab aa ao Y O] ((aZ ax I).l) ((aZ ax I).c),_,rfl,⟨dm.1,b.2⟩,FU z y.1 m.1 ag.1 b2 ah.1 dF,⟨ch,cS,rfl,⟨c9,da,by simp,db⟩,?_⟩⟩
 exact eG.mQ dc (ee.append (ee.single ((kA (k:=b4) (s:=cc) (n:=ca) (l:=b8) (c:=bi) dk (eG.sub dB (ai (ai (ai aU dE) aV) bR))))) (ee.single ((kA (k:=U) (s:=ab) (n:=aa) (l:=Y) (c:=O) bt (eG.sub bI (ai aV bR))))))
 have af:=jW (by decide) df;dsimp only at af
 have dw:eu ⟨I,deep,false,l,c⟩ ⟨I4+1,g,d,i,f⟩:=⟨by have:=aT.1;dsimp only at this⊢;omega,.inr (by have:=aT.1;dsimp only at this⊢;omega)⟩
 try dsimp only[rdv]
 refine rV 4 rfl (vp (bA rfl rfl (by omega)) rfl (rL 7 rfl ?_))
 refine be (iq a (⟨I4+1,g,d,i,f⟩:Rd) 5 (⟨#[105,110]⟩) (by have:=(show dz ax ⟨I4+1,g,d,i,f⟩ from⟨by have:=af.1;dsimp only at this⊢;omega,m.2.2⟩).1;have:=a.len;omega)) ir rfl rfl ?_
 rintro _ b1
 obtain⟨⟨cq,c0,cC,dO,cM⟩,br⟩:∃X,X=gU ax (⟨I4+1,g,d,i,f⟩:Rd) 5 (⟨#[105,110]⟩):=⟨_,rfl⟩
 have aj:=jh (text:=(⟨#[105,110]⟩)) (show(5:Int)≠-1 by decide) (show dz ax ⟨I4+1,g,d,i,f⟩ from⟨by have:=af.1;dsimp only at this⊢;omega,m.2.2⟩)
 rw[←br] at aj
 rw[←br] at b1;subst b1
 have dA:eu (⟨I,deep,false,l,c⟩:Rd) (⟨cq,c0,cC,dO,cM⟩:Rd):=dw.mv aj.1
 try dsimp only[rdv]
 refine cN (p.mx a aj.2 dA o) jB rfl rfl ?_
 rintro _ d4 _ ⟨⟨cs,d8,cF,dQ,cP⟩,⟨V,ac,n7,av,Z,P⟩,_,rfl,dp,dH,ay,aM,rfl,bx,bO⟩
 try dsimp only[rdv]
 refine rL 14 rfl ?_
 refine et cZ rfl ?_
 intro d9 ct bP dg
 try dsimp only[rdv]
 refine nW 31 6 ?_
 refine gW (news:=[zI V,.string ac,zI n7,.slice ay av.length aM,zI Z,zI P]) n8 rfl rfl (cd rfl dg) (fun h=>by cases h) (fun u hu=>Ex.Cs.one (w:=ct) (e:= .mk V ac n7 av Z P) (c:=[zI V,.string ac,zI n7,.slice ay av.length aM,zI Z,zI P]) ⟨ay,aM,rfl,bx,(eG.sub bO bP)⟩ u hu) (by omega) rfl rfl ?_
 intro cg cR dT dD c5 c6 c7 c8
 try dsimp only[rdv]
 refine rL 12 rfl ?_
 refine bZ mixed (fun k=>k==4||k==6) fun aq=> ?_
 refine bL [0,1,1002,1003] rfl (by kernel_rfl) id (bS (by kernel_rfl) (rD 3 rfl ?_))
 refine cB results25 (aK rfl rfl dr) (aK rfl rfl cY) ⟨rfl,(⟨cs,deep,cF,dQ,cP⟩:Rd),?_⟩
 refine⟨.mk 8 an 0 [.mk V ac n7 av Z P] ((aZ ax I).l) ((aZ ax I).c),_,rfl,⟨dp.1,b.2⟩,FT z y.1 m.1 aj.1 dH af.2,⟨cg,cR,rfl,⟨c5,c6,by simp,c7⟩,?_⟩⟩
 exact eG.mQ c8 (ee.single ((kA (k:=V) (s:=ac) (n:=n7) (l:=Z) (c:=P) bx (eG.sub bO (ai bP dD)))))
 subst bs
 try dsimp only[rdv]
 refine rV 2 rfl ?_
 refine bZ mixed (fun k=>k==0||k==4) fun aq=> ?_
 refine bL [0,1,1002,1003] rfl (by kernel_rfl) id (bS (by kernel_rfl) (rD 3 rfl ?_))
 refine cB results25 (aK rfl rfl dr) (aK rfl rfl cY) ⟨rfl,(⟨I,deep,true,l,c⟩:Rd),?_⟩
 exact⟨.mk 0 ⟨#[]⟩ 0 [] 0 0,_,rfl,b,zq rfl,lN _ _ _ _ _ _⟩
theorem zt(A:OA)(cap:Nat)(ts:List Tk):∀k,qU A cap ts k∧zn A cap ts k
 |0=>⟨fun R r a b h=>zr R r a b (h.resolve_right (by omega)),fun m R r e f a b h=>absurd h (by omega)⟩
 |k+1=>by
  obtain⟨g,d⟩:=zt A cap ts k
  have n:la 100 [] A cap ts k:=fun R r a b c=>FO g R r a b c
  have o:la 84 [] A cap ts k:=fun R r a b c=>FP n R r a b c
  have j:la 62 [zI 5] A cap ts k:=fun R r a b c=>FQ o R r a b c
  have i:la 62 [zI 4] A cap ts k:=fun R r a b c=>tf 4 (by decide) (by decide) j d R r a b c
  have h3:la 62 [zI 3] A cap ts k:=fun R r a b c=>tf 3 (by decide) (by decide) i d R r a b c
  have f:la 62 [zI 2] A cap ts k:=fun R r a b c=>tf 2 (by decide) (by decide) h3 d R r a b c
  have e:la 62 [zI 1] A cap ts k:=fun R r a b c=>tf 1 (by decide) (by decide) f d R r a b c
  refine⟨fun R r a b h=> ?_,fun m R r g1 g2 a b h=> ?_⟩
  ·cases l:r.bad with
   |true=>exact zr R r a b l
   |false=>
    rcases h with h|h
    ·rw[l] at h;cases h
    ·exact FV g e R r a b (by omega)
  ·have p:m=1∨m=2∨m=3∨m=4∨m=5:=by omega
   rcases p with rfl|rfl|rfl|rfl|rfl
   ·exact e R r a b (by omega)
   ·exact f R r a b (by omega)
   ·exact h3 R r a b (by omega)
   ·exact i R r a b (by omega)
   ·exact j R r a b (by omega)
theorem pq(R:Wd)(r:Rd)(a:cE R aA ae ax)(b:dz ax r):bd 25 [rdv aA ae ax r] R (jg aA ae ax r):=
 (zt aA ae ax (ax.length -r.I+1)).1 R r a b (.inr (by omega))
end Go.Proofs.YthnogncknmhgoaaGreat.Vm
namespace Go.Proofs.YthnogncknmhgoaaGreat.Vm
open ChangeShapes WideShapes ChangeAt RowKit bq Data
variable{zl:Addr}{aM:Ex}{aj:LV}{ec:List BA}{cv vE:List Ex}{ae ao:Nat}{aA h5:OA}{OJ:Option Addr}{ah:Wd}
section
variable{α:Type}
def aL (P:World→α→List Value→Prop) (R:World):List α→List Value→Prop
 |[],xs=>xs=[]
 |a::r,xs=>∃c rest,xs=c++rest∧P R a c∧aL P R r rest
structure eR (P:World→α→List Value→Prop) (size:Nat):Prop where
 sub:∀{R R':World} {a:α} {c:List Value},P R a c→Sub R R'→P R' a c
 len:∀{R:World} {a:α} {c:List Value},P R a c→c.length=size
 one:∀{R:World} {a:α} {c:List Value},P R a c→∀u∈c,u.oneCell'=true
def cF (A:Option Addr) (n cap:Nat):Prop:=n≤cap∧cap≤9223372036854775807∧n≤490000000∧(A=none→cap=0)
theorem fR{n c:Nat}(h:cF OJ n c):n≤490000000:=h.2.2.1
def a5 (P:World→α→List Value→Prop) (size:Nat) (R:World) (A:Option Addr) (l:List α):Prop:=∃xs,Src R size A l.length xs∧aL P R l xs
variable{P:Wd→α→LV→Prop}{size:Nat}{R R':Wd}{A:OA}{l m:List α}{xs ys:LV}
theorem aL.sub(E:eR P size)(b:Sub R R'):∀{l:List α} {xs:LV},aL P R l xs→aL P R' l xs
 |[],xs,h=>h
 |a::r,xs,⟨c,rest,d,e,f⟩=>⟨c,rest,d,E.sub e b,aL.sub E b f⟩
abbrev bg:=@aL.sub
theorem aL.len(E:eR P size):∀{l:List α} {xs:LV},aL P R l xs→xs.length=l.length*size
 |[],xs,h=>by have h:xs=[]:=h;subst h;simp
 |a::r,xs,⟨c,rest,b,d,e⟩=>by subst b;rw[List.length_append,E.len d,aL.len E e,List.length_cons,Nat.succ_mul];omega
theorem aL.one(E:eR P size):∀{l:List α} {xs:LV},aL P R l xs→∀u∈xs,u.oneCell'=true
 |[],xs,h=>by have h:xs=[]:=h;subst h;simp
 |a::r,xs,⟨c,rest,b,d,e⟩=>by
  subst b
  intro u hu
  rcases fM.1 hu with hu|hu
  ·exact E.one d u hu
  ·exact aL.one E e u hu
theorem aL.nil:aL P R [] []:=rfl
abbrev gr:=@aL.nil
theorem aL.single{a:α}{c:LV}(h:P R a c):aL P R [a] c:=⟨c,[],by simp,h,rfl⟩
abbrev c4:=@aL.single
theorem aL.append:∀{l m:List α} {xs ys:LV},aL P R l xs→aL P R m ys→aL P R (l++m) (xs++ys)
 |[],m,xs,ys,h,g=>by have h:xs=[]:=h;subst h;exact g
 |a::r,m,xs,ys,⟨c,rest,b,d,e⟩,g=>⟨c,rest++ys,by rw[b,List.append_assoc],d,aL.append e g⟩
abbrev c6:=@aL.append
theorem a5.sub(E:eR P size)(h:a5 P size R A l)(a:Sub R R'):a5 P size R' A l:=by
 obtain⟨xs,b,c⟩:=h
 exact⟨xs,eL b a,c.sub E a⟩
abbrev aC:=@a5.sub
theorem a5.nil(A:OA):a5 P size R A []:=⟨[],⟨by simp,.inl rfl⟩,rfl⟩
abbrev ew:=@a5.nil
theorem aL.get(E:eR P size):∀{l:List α} {xs:LV},aL P R l xs→∀(i:Nat) (h:i<l.length),∃c,P R (l[i]) c∧∀j u,c[j]?=some u→xs[i*size+j]?=some u
 |[],_,_,i,h=>by simp at h
 |a::r,xs,⟨c,rest,b,d,e⟩,0,_=>⟨c,d,fun j u hu=>by
   subst b
   rw[Nat.zero_mul,Nat.zero_add,List.getElem?_append_left (List.getElem?_eq_some_iff.1 hu).1]
   exact hu⟩
 |a::r,xs,⟨c,rest,b,d,e⟩,i+1,h=>by
  obtain⟨c',g1,g2⟩:=aL.get E e i (by simpa using h)
  refine⟨c',g1,fun j u hu=> ?_⟩
  subst b
  have f:=E.len d
  rw[List.getElem?_append_right (by rw[f,Nat.succ_mul];omega),f,show(i+1)*size+j -size=i*size+j by rw[Nat.succ_mul];omega]
  exact g2 j u hu
theorem a5.get(E:eR P size)(h:a5 P size R A l)(i:Nat)(g:i<l.length):∃b o c,A=some ⟨b,o,none⟩∧P R (l[i]) c∧∀j u,c[j]?=some u→R.cell? ⟨b,o+i*size+j,none⟩=some u:=by
 obtain⟨xs,a,d⟩:=h
 obtain⟨c,g1,g2⟩:=d.get E i g
 rcases a.2 with k|⟨b,o,e,f⟩
 ·omega
 ·exact⟨b,o,c,e,g1,fun j u hu=>by rw[Nat.add_assoc];exact f _ u (g2 j u hu)⟩
theorem a5.gx(E:eR P size)(h:a5 P size R A l)(i:Nat)(a:i<l.length):∃b o c,A=some ⟨b,o,none⟩∧∃e,e=l[i]'a∧P R e c∧∀j u,c[j]?=some u→R.cell? ⟨b,o+i*size+j,none⟩=some u:=by
 obtain⟨b,o,c,d,f,h3⟩:=a5.get E h i a
 exact⟨b,o,c,d,_,rfl,f,h3⟩
abbrev cn:=@a5.gx
theorem a5.of(h:Src R size A l.length xs)(a:aL P R l xs):a5 P size R A l:=⟨xs,h,a⟩
abbrev cz:=@a5.of
theorem a5.new(E:eR P size)(a:aL P R l xs)(h:∀j u,xs[j]?=some u→R.cell? ⟨ae,j,none⟩=some u):a5 P size R (some ⟨ae,0,none⟩) l:=⟨xs,cd (a.len E) h,a⟩
end
theorem bM:eR Ex.Cs 6:=⟨fun h a=>h.sub a,fun h=>h.len,fun h=>h.one⟩
mutual
theorem Ty.At.sub{w d:Wd}(a:Sub w d):∀(e:Ty) (b o:Nat),e.At w b o→e.At d b o
 | .mk k s n ys,b,o,h=>by
   rw[Ty.At] at h⊢
   obtain⟨A,cap,f,c1,c2,c3,hh,l⟩:=h
   refine⟨A,cap,a _ _ _ f,a _ _ _ c1,a _ _ _ c2,a _ _ _ c3,hh,?_⟩
   rcases l with g|⟨b',c,i,j⟩
   ·exact .inl g
   ·exact .inr ⟨b',c,i,gM.sub a ys b' c j⟩
theorem gM.sub{w c:Wd}(a:Sub w c):∀(es:List Ty) (b o:Nat),gM w es b o→gM c es b o
 |[],_,_,_=>by rw[gM];trivial
 |e::r,b,o,h=>by
  rw[gM] at h⊢
  exact⟨Ty.At.sub a e b o h.1,gM.sub a r b _ h.2⟩
end
theorem k2.sub{w a:Wd}{A:OA}{es:List Ty}(h:k2 w A es)(e:Sub w a):k2 a A es:=by
 rcases h with h|⟨b,o,c,d⟩
 ·exact .inl h
 ·exact .inr ⟨b,o,c,gM.sub e _ _ _ d⟩
theorem Ty.Cs.sub{w a:Wd}{e:Ty}{c:LV}(h:e.Cs w c)(f:Sub w a):e.Cs a c:=by
 cases e
 obtain⟨A,cap,b,d,h3⟩:=h
 exact⟨A,cap,b,d,k2.sub h3 f⟩
theorem a2:eR Ty.Cs 4:=⟨fun h a=>Ty.Cs.sub h a,fun h=>h.len,fun h=>h.one⟩
theorem ti{R:Wd}:∀{l:List Ex} {xs:LV},ee R l xs↔aL Ex.Cs R l xs
 |[],xs=>by rw[ee];exact Iff.rfl
 |e::r,xs=>by
  rw[ee]
  exact⟨fun⟨c,rest,a,b,d⟩=>⟨c,rest,a,b,ti.1 d⟩,fun⟨c,rest,a,b,d⟩=>⟨c,rest,a,b,ti.2 d⟩⟩
theorem tj{R:Wd}:∀{l:List Ty} {xs:LV},iF R l xs↔aL Ty.Cs R l xs
 |[],xs=>by rw[iF];exact Iff.rfl
 |e::r,xs=>by
  rw[iF]
  exact⟨fun⟨c,rest,a,b,d⟩=>⟨c,rest,a,b,tj.1 d⟩,fun⟨c,rest,a,b,d⟩=>⟨c,rest,a,b,tj.2 d⟩⟩
theorem c9:eG ah aA cv↔a5 Ex.Cs 6 ah aA cv:=
 ⟨fun h=>by obtain⟨xs,a,b⟩:=h.cells;exact⟨xs,a,ti.1 b⟩,fun⟨xs,a,b⟩=>eG.mQ a (ti.2 b)⟩
variable{b4:List Ty}
theorem a8:k2 ah aA b4↔a5 Ty.Cs 4 ah aA b4:=
 ⟨fun h=>by obtain⟨xs,a,b⟩:=h.cells;exact⟨xs,a,tj.1 b⟩,fun⟨xs,a,b⟩=>k2.mQ a (tj.2 b)⟩
theorem de{k n l c:Int}{s:BA}(hh:cF aA cv.length ae)(a:a5 Ex.Cs 6 ah aA cv):Ex.Cs ah (.mk k s n cv l c) [zI k,.string s,zI n,.slice aA cv.length ae,zI l,zI c]:=⟨aA,ae,rfl,hh,c9.2 a⟩
theorem aP{k n:Int}{s:BA}{ys:List Ty}(hh:cF aA ys.length ae)(a:a5 Ty.Cs 4 ah aA ys):Ty.Cs ah (.mk k s n ys) [zI k,.string s,zI n,.slice aA ys.length ae]:=⟨aA,ae,rfl,hh,a8.2 a⟩
def b7 (R:World) (s:ByteArray) (c:List Value):Prop:=c=[.string s]
theorem bT:eR b7 1:=⟨fun h _=>h,fun h=>by rw[h];rfl,fun h u hu=>by rw[h] at hu;simp at hu;subst hu;rfl⟩
def dU (R:World) (n:Int) (c:List Value):Prop:=c=[.int .i64 n]
theorem cP:eR dU 1:=⟨fun h _=>h,fun h=>by rw[h];rfl,fun h u hu=>by rw[h] at hu;simp at hu;subst hu;rfl⟩
structure Cn where
 s:ByteArray
 ts:List Ty
 l:Int
 c:Int
def Cn.Cs (R:World) (x:Cn) (c:List Value):Prop:=∃A cap,c=[.string x.s,.slice A x.ts.length cap,.int .i64 x.l,.int .i64 x.c]∧cF A x.ts.length cap∧a5 Ty.Cs 4 R A x.ts
theorem j2:eR Cn.Cs 4:=by
 refine⟨fun h c=> ?_,fun h=> ?_,fun h u hu=> ?_⟩
 ·obtain⟨A,cap,a,b,h3⟩:=h;exact⟨A,cap,a,b,h3.sub a2 c⟩
 ·obtain⟨A,cap,rfl,-⟩:=h;rfl
 ·obtain⟨A,cap,rfl,-⟩:=h
  simp at hu
  rcases hu with rfl|rfl|rfl|rfl<;>rfl
structure Dt where
 s:ByteArray
 vs:List ByteArray
 cs:List Cn
 l:Int
 c:Int
def Dt.Cs (R:World) (x:Dt) (c:List Value):Prop:=∃A cap B a,c=[.string x.s,.slice A x.vs.length cap,.slice B x.cs.length a,.int .i64 x.l,.int .i64 x.c]∧cF A x.vs.length cap∧a5 b7 1 R A x.vs∧cF B x.cs.length a∧a5 Cn.Cs 4 R B x.cs
theorem eI:eR Dt.Cs 5:=by
 refine⟨fun h b=> ?_,fun h=> ?_,fun h u hu=> ?_⟩
 ·obtain⟨A,cap,B,a,c,d,h3,e,f⟩:=h;exact⟨A,cap,B,a,c,d,h3.sub bT b,e,f.sub j2 b⟩
 ·obtain⟨A,cap,B,a,rfl,-⟩:=h;rfl
 ·obtain⟨A,cap,B,a,rfl,-⟩:=h
  simp at hu
  rcases hu with rfl|rfl|rfl|rfl|rfl<;>rfl
structure Rl where
 s:ByteArray
 ps:List Ex
 gs:List Ex
 b:Ex
 l:Int
 c:Int
def Rl.Cs (R:World) (x:Rl) (c:List Value):Prop:=∃A cap B d a,c= .string x.s:: .slice A x.ps.length cap:: .slice B x.gs.length d::(a++ [.int .i64 x.l,.int .i64 x.c])∧cF A x.ps.length cap∧a5 Ex.Cs 6 R A x.ps∧cF B x.gs.length d∧a5 Ex.Cs 6 R B x.gs∧x.b.Cs R a
theorem dt:eR Rl.Cs 11:=by
 refine⟨fun h d=> ?_,fun h=> ?_,fun h u hu=> ?_⟩
 ·obtain⟨A,cap,B,c,b,e,f,h3,g,i,a⟩:=h;exact⟨A,cap,B,c,b,e,f,h3.sub bM d,g,i.sub bM d,a.sub d⟩
 ·obtain⟨A,cap,B,c,b,rfl,-,-,-,-,a⟩:=h;simp[a.len]
 ·obtain⟨A,cap,B,c,b,rfl,-,-,-,-,a⟩:=h
  simp at hu
  rcases hu with rfl|rfl|rfl|hu|rfl|rfl
  ·rfl
  ·rfl
  ·rfl
  ·exact a.one u hu
  ·rfl
  ·rfl
theorem n9{s:BA}{l c:Int}(hh:cF aA b4.length ae)(a:a5 Ty.Cs 4 ah aA b4):Cn.Cs ah ⟨s,b4,l,c⟩ [.string s,.slice aA b4.length ae,zI l,zI c]:=⟨aA,ae,rfl,hh,a⟩
variable{vD:List Cn}
theorem q0{s:BA}{l c:Int}(hh:cF aA ec.length ae)(b:a5 b7 1 ah aA ec)(a:cF h5 vD.length ao)(d:a5 Cn.Cs 4 ah h5 vD):Dt.Cs ah ⟨s,ec,vD,l,c⟩ [.string s,.slice aA ec.length ae,.slice h5 vD.length ao,zI l,zI c]:=⟨aA,ae,h5,ao,rfl,hh,b,a,d⟩
theorem pr{s:BA}{l c:Int}(hh:cF aA cv.length ae)(d:a5 Ex.Cs 6 ah aA cv)(b:cF h5 vE.length ao)(e:a5 Ex.Cs 6 ah h5 vE)(a:aM.Cs ah aj):Rl.Cs ah ⟨s,cv,vE,aM,l,c⟩ (.string s:: .slice aA cv.length ae:: .slice h5 vE.length ao::(aj++ [zI l,zI c])):=⟨aA,ae,h5,ao,aj,rfl,hh,d,b,e,a⟩
theorem pt{n:Nat}(h:n≤490000000):cF (some zl) n n:=⟨a9 _,by omega,h,fun h=>(by cases h)⟩
theorem eg:cF none 0 0:=⟨a9 _,by omega,by omega,fun _=>rfl⟩
end Go.Proofs.YthnogncknmhgoaaGreat.Vm
