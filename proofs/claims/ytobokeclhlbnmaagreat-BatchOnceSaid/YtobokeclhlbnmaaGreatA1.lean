/- Part of the proof of BatchOnce, for every input. -/
import GoSem.Dispatch
import Derived.Orders
import Derived.MapKept
import Derived.Laws.StructEq
import Derived.Laws.Pointers
import Derived.WalkSpells
set_option linter.all false
namespace Go.Abs
theorem I{p:Prop}(h:p:=by omega):p:=h
theorem aM{p:Prop}(h:p:=by simp):p:=h
inductive T(α:Type) where
 |e:T α
 |n (l:T α) (v:Option α) (r:T α):T α
namespace T
variable{α:Type}
def get:T α->Nat->Option α
 |e,_=>none
 |n l v r,i=>if i=0 then v else if i%2=1 then get l (i / 2)else get r (i / 2-1)
def sP:Nat->Nat->Option α->T α
 |0,_,_=>e
 |f+1,i,x=>if i=0 then n e x e else if i%2=1 then n (sP f (i / 2) x) none e else n e none (sP f (i / 2-1) x)
def put:T α->Nat->Option α->T α
 |e,i,x=>sP (i+1) i x
 |n l v r,i,x=>if i=0 then n l x r else if i%2=1 then n (put l (i / 2) x) v r else n l v (put r (i / 2-1) x)
theorem ayk(f:Nat):∀i j (x:Option α),i<f->(sP f i x).get j=if i=j then x else none:=by
 induction f with
 |zero=>intro i j x h;omega
 |succ f c0=>
  intro i j x h
  by_cases a5:i=0
  .subst a5
   by_cases ax:j=0
   .subst ax;simp[sP,get]
   .have xC:¬0=j:=fun h=>ax h.symm
    simp[sP,get,ax,xC]
  .by_cases J:i%2=1
   .by_cases ax:j=0
    .subst ax;simp[sP,get,a5,J]
    .by_cases lV:j%2=1
     .simp only[sP,a5,J,if_true,if_false,get,ax,lV]
      rw[c0 _ _ _ I]
      by_cases e:i=j
      .subst e;simp
      .rw[if_neg e,if_neg I]
     .have bp:¬i=j:=by intro e;subst e;exact lV J
      simp[sP,a5,J,get,ax,lV,bp]
   .by_cases ax:j=0
    .subst ax;simp[sP,get,a5,J]
    .by_cases lV:j%2=1
     .have bp:¬i=j:=by intro e;subst e;exact J lV
      simp[sP,a5,J,get,ax,lV,bp]
     .simp only[sP,a5,J,if_false,get,ax,lV]
      rw[c0 _ _ _ I]
      by_cases e:i=j
      .subst e;simp
      .rw[if_neg e,if_neg I]
theorem ux(t:T α):∀i j (x:Option α),(t.put i x).get j=if i=j then x else t.get j:=by
 induction t with
 |e=>intro i j x;simp only[put];rw[ayk _ _ _ _ I];simp[get]
 |n l v r aBz aBB=>
  intro i j x
  by_cases a5:i=0
  .subst a5
   by_cases ax:j=0
   .subst ax;simp[put,get]
   .have xC:¬0=j:=fun h=>ax h.symm
    simp[put,get,ax,xC]
  .by_cases J:i%2=1
   .by_cases ax:j=0
    .subst ax;simp[put,get,a5,J]
    .by_cases lV:j%2=1
     .simp only[put,a5,J,if_true,if_false,get,ax,lV]
      rw[aBz]
      by_cases e:i=j
      .subst e;simp
      .rw[if_neg e,if_neg I]
     .have bp:¬i=j:=by intro e;subst e;exact lV J
      simp[put,a5,J,get,ax,lV,bp]
   .by_cases ax:j=0
    .subst ax;simp[put,get,a5,J]
    .by_cases lV:j%2=1
     .have bp:¬i=j:=by intro e;subst e;exact J lV
      simp[put,a5,J,get,ax,lV,bp]
     .simp only[put,a5,J,if_false,get,ax,lV]
      rw[aBB]
      by_cases e:i=j
      .subst e;simp
      .rw[if_neg e,if_neg I]
def ofList(t:T α)(i:Nat):List α->T α
 |[]=>t
 |a::l=>ofList (t.put i (some a)) (i+1) l
theorem uw:∀(l:List α) (t:T α) i j,(ofList t i l).get j=if i<=j/\j<i+l.length then l[j-i]? else t.get j:=by
 intro l
 induction l with
 |nil=>intro t i j;simp only[ofList,List.length_nil];rw[if_neg I]
 |cons a l c0=>
  intro t i j
  simp only[ofList,List.length_cons]
  rw[c0,ux]
  by_cases h:i=j
  .subst h
   rw[if_neg I,if_pos rfl,if_pos I];simp
  .by_cases U:i+1<=j/\j<i+1+l.length
   .rw[if_pos U,if_pos I,show j-i=(j- (i+1))+1 from I];simp
   .rw[if_neg U,if_neg h,if_neg I]
end T
inductive V where
 |undef
 |bool (b:Bool)
 |int (k:IntKind) (n:Int)
 |str (s:ByteArray)
 |ptr (b o:Nat)
 |nil
 |slice (b o len cap z:Nat)
 |br
 |map (r:Nat)
 |hC
 |fn (f:Fn) (first cap:List V)
 |fZ
 |iface (t:TypeId) (v:V)
 |jC
 |agg (al:List V)
 |bN (vs:List V)
 |any
 deriving Inhabited
def V.cells:V->List V
 | .agg al=>al
 |v=>[v]
def V.cell:V->Bool
 | .agg _| .bN _| .undef| .any=>false
 |_=>true
def V.known:V->Bool
 | .any=>false
 |_=>true
inductive jq where
 |cells (ro:Bool) (n:Nat) (c:T V)
 |map (ro:Bool) (es:List (V×V))
def jq.ro:jq->Bool
 | .cells r _ _=>r
 | .map r _=>r
structure H where
 t:T jq
 next:Nat
def H.get(σ:H)(b:Nat):Option jq:=σ.t.get b
def H.set(σ:H)(b:Nat)(B:jq):H:=⟨σ.t.put b (some B),σ.next⟩
def H.kill(σ:H)(b:Nat):H:=⟨σ.t.put b none,σ.next⟩
def H.new(σ:H)(B:jq):H:=⟨σ.t.put σ.next (some B),σ.next+1⟩
def kE(c:T V)(i:Nat):V:=(c.get i).getD .undef
def qs(c:T V):Nat->Nat->List V
 |_,0=>[]
 |i,n+1=>kE c i::qs c (i+1) n
def H.l2(σ:H)(b o n:Nat):Option (List V):=
 match σ.get b with
 |some (.cells _ m c)=>if o+n<=m then some (qs c o n)else none
 |_=>none
def H.pe(σ:H)(b o:Nat)(vs:List V):Option H:=
 match σ.get b with
 |some (.cells false m c)=>if o+vs.length<=m/\vs.all V.cell=true then some (σ.set b (.cells false m (c.ofList o vs)))else none
 |_=>none
inductive aG where
 |t (n:Nat)
 |c (v:V)
inductive vi where
 |bool|ptr|iface|func|slice|map|any
 |ints (n:Nat)
inductive s6 where
 |uU (x:aG)
 |pick (c a b:aG)
 |build (dt:List V) (parts:List (Nat×Nat×aG))
 |wu (x:aG)
 |arith (op:BinOp) (x y:aG)
 |shift (op:BinOp) (x y:aG)
 |eq (neg:Bool) (e:vi) (x y:aG)
 |un (op:UnOp) (x:aG)
 |conv (k:IntKind) (x:aG)
 |D6 (t:TypeId) (x:aG)
 |zK (fn:Fn) (first cap:List aG)
 |slice (z:Nat) (x:aG) (fa aC:Option aG)
 |slice3 (z:Nat) (x:aG) (fa:Option aG) (aC iB:aG)
 |fieldAddr (off:Nat) (x:aG)
 |field (off size:Nat) (agg:Bool) (x:aG)
 |zw (z:Nat) (x i:aG)
 |GO (len z:Nat) (x i:aG)
 |Lo (len z:Nat) (agg:Bool) (x i:aG)
 |extract (i:Nat) (x:aG)
 |Cu (t:TypeId) (ok:Option V) (x:aG)
 |uQ (x:aG)
 |LF (x:aG)
 |xX (iB:Bool) (x y:aG)
inductive pq where
 |alloc (dt:List V)
 |box (x:aG)
 |ul (len z:Nat) (dt:List V) (parts:List (Nat×Nat×aG))
 |mkSlice (z bytes:Nat) (dt:List V) (l c:aG)
 |mkMap
inductive X where
 |l (x:s6)
 |a (x:pq)
 |load (n:Nat) (agg:Bool) (a:aG)
 |store (n:Nat) (a v:aG)
 |yN (neg:Bool) (x y:aG)
 |EZ (n z:Nat) (x:aG) (fa aC:Option aG)
 |lookup (zero:V) (ok:Bool) (m k:aG)
 |update (m k v:aG)
 |delete (m k:aG)
 |wm (m:aG)
 |append (z bytes:Nat) (s x:aG)
 |copy (z:Nat) (d s:aG)
 |vt (dt:List V) (x:aG)
 |call (f:FuncId) (args:List aG)
 |pr (f:aG) (args:List aG)
 |invoke (name:String) (recv:aG) (args:List aG)
 |panic (x:aG)
structure Op where
 dst:Option Nat
 x:X
 g:Option (Nat×Bool)
structure dg where
 idx:Nat
 o:Op
 f_:Bool
 back:Nat
 jx:Nat
inductive C where
 |skip
 |ao (l:List Op)
 |draw (l:List dg)
 |seq (a b:C)
 |cond (c:aG) (a b:C)
 |block (id:Nat) (c:C)
 |loop (c:C)
 |exit (id:Nat)
 |ret
 |oz (d:Option Nat) (f:FuncId) (args:List aG)
inductive vq where
 |tmp (t:Nat)
 |cell (a n:Nat) (agg:Bool)
structure bn where
 j8:List vq
 body:C
 wH:Option (Option Nat):=none
def aW(t:T V):aG->V
 | .t i=>(t.get i).getD .any
 | .c v=>v
def nQ(cells:List V)(off:Nat):List V->List V
 |[]=>cells
 |c::al=>nQ (cells.set off c) (off+1) al
def pY(cells:List V):List (Nat×Nat×V)->Option (List V)
 |[]=>some cells
 |(off,size,v)::r=>if v.cells.length≠size\/off+size>cells.length\/v.known=false then none else pY (nQ cells off v.cells) r
def x7(al:List V)(off size:Nat)(agg:Bool):Option V:=
 if agg then some (.agg ((al.drop off).take size))else al[off]?
def yC(op:BinOp)(k:IntKind)(a b:Int):Option V:=
 match op with
 | .add=>some (.int k (k.wrap (a+b)))
 | .sub=>some (.int k (k.wrap (a-b)))
 | .mul=>some (.int k (k.wrap (a*b)))
 | .quo=>if b=0 then none else some (.int k (k.wrap (a.tdiv b)))
 | .rem=>if b=0 then none else some (.int k (a.tmod b))
 | .and=>some (.int k (k.wrap ((BitVec.ofInt k.bits a&&& BitVec.ofInt k.bits b).toNat)))
 | .or=>some (.int k (k.wrap ((BitVec.ofInt k.bits a |||BitVec.ofInt k.bits b).toNat)))
 | .xor=>some (.int k (k.wrap ((BitVec.ofInt k.bits a ^^^ BitVec.ofInt k.bits b).toNat)))
 | .andNot=>some (.int k (k.wrap ((BitVec.ofInt k.bits a&&& ~~~ BitVec.ofInt k.bits b).toNat)))
 | .eql=>some (.bool (a==b))
 | .neq=>some (.bool (a != b))
 | .lss=>some (.bool (a<b))
 | .leq=>some (.bool (a<=b))
 | .gtr=>some (.bool (a>b))
 | .geq=>some (.bool (a>=b))
 |_=>none
def EX(op:BinOp)(k:IntKind)(a b:Int):Option V:=
 if b<0 then none else
 match op with
 | .shl=>some (.int k (k.wrap (a*2 ^ (min b.toNat k.bits))))
 | .shr=>some (.int k (a.fdiv (2 ^ (min b.toNat k.bits))))
 |_=>none
def tt:Nat->List V->List V->Option Bool
 |0,[],[]=>some true
 |n+1,.int k a::xs,.int a9 b::B9=>if k=a9 then(if a==b then tt n xs B9 else some false)else none
 |_,_,_=>none
def sl:vi->V->V->Option Bool
 | .bool,.bool a,.bool b=>some (a==b)
 | .ptr,.nil,.nil=>some true
 | .ptr,.nil,.ptr _ _=>some false
 | .ptr,.ptr _ _,.nil=>some false
 | .ptr,.ptr b o,.ptr b' mT=>if b=b' then some (o==mT)else none
 | .iface,.jC,.iface _ _=>some false
 | .iface,.iface _ _,.jC=>some false
 | .func,.fZ,.fZ=>some true
 | .func,.fZ,.fn _ _ _=>some false
 | .func,.fn _ _ _,.fZ=>some false
 | .slice,.br,.br=>some true
 | .slice,.br,.slice _ _ _ _ _=>some false
 | .slice,.slice _ _ _ _ _,.br=>some false
 | .map,.hC,.hC=>some true
 | .map,.hC,.map _=>some false
 | .map,.map _,.hC=>some false
 | .any,.jC,.jC=>some true
 | .any,.jC,.iface _ _=>some false
 | .any,.iface _ _,.jC=>some false
 | .ints n,.agg xs,.agg B9=>tt n xs B9
 |_,_,_=>none
def z_(op:UnOp):V->Option V
 | .bool b=>match op with| .not=>some (.bool !b)|_=>none
 | .int k n=>match op with
   | .neg=>some (.int k (k.wrap (0-n)))
   | .xor=>some (.int k (k.wrap ((BitVec.ofInt k.bits (if k.signed then -1 else k.max) ^^^ BitVec.ofInt k.bits n).toNat)))
   |_=>none
 |_=>none
def ix(d:Nat):Option V->Option Nat
 |none=>some d
 |some (.int _ n)=>if 0<=n then some n.toNat else none
 |_=>none
def q9(z:Nat)(x:V)(fa aC:Option V):Option V:=
 match x with
 | .slice b o len cap z'=>
   match ix len aC,ix 0 fa with
   |some h,some l=>if l<=h/\h<=cap/\z'=z then some (.slice b (o+l*z) (h-l) (cap-l) z)else none
   |_,_=>none
 | .br=>
   match ix 0 aC,ix 0 fa with
   |some 0,some 0=>some .br
   |_,_=>none
 |_=>none
def Nl(z:Nat)(x:V)(fa:Option V)(aC iB:V):Option V:=
 match x with
 | .slice b o len cap z'=>
   match ix len (some aC),ix 0 fa,ix 0 (some iB)with
   |some h,some l,some m=>if l<=h/\h<=m/\m<=cap/\z'=z then some (.slice b (o+l*z) (h-l) (m-l) z)else none
   |_,_,_=>none
 |_=>none
def gX(ρ:aG->V):s6->Option V
 | .uU x=>some (ρ x)
 | .pick c a b=>match ρ c with| .bool t=>some (if t then ρ a else ρ b)|_=>none
 | .build dt hk=>(pY dt (hk.map fun p=>(p.1,p.2.1,ρ p.2.2))).map .agg
 | .wu x=>match ρ x with| .ptr b o=>some (.ptr b o)| .iface t v=>some (.iface t v)| .fn (.func f) a b=>some (.fn (.func f) a b)|_=>none
 | .arith op x y=>match ρ x,ρ y with| .int k a,.int a9 b=>if k=a9 then yC op k a b else none|_,_=>none
 | .shift op x y=>match ρ x,ρ y with| .int k a,.int _ b=>EX op k a b|_,_=>none
 | .eq neg e x y=>(sl e (ρ x) (ρ y)).map fun r=>.bool (if neg then !r else r)
 | .un op x=>z_ op (ρ x)
 | .conv k x=>match ρ x with| .int _ n=>some (.int k (k.wrap n))|_=>none
 | .D6 t x=>some (.iface t (ρ x))
 | .zK fn first cap=>some (.fn fn (first.map ρ) (cap.map ρ))
 | .slice z x fa aC=>q9 z (ρ x) (fa.map ρ) (aC.map ρ)
 | .slice3 z x fa aC iB=>Nl z (ρ x) (fa.map ρ) (ρ aC) (ρ iB)
 | .fieldAddr off x=>match ρ x with| .ptr b o=>some (.ptr b (o+off))|_=>none
 | .field off size agg x=>match ρ x with| .agg al=>x7 al off size agg|_=>none
 | .zw z x i=>match ρ x,ρ i with
   | .slice b o len _ z',.int _ n=>if 0<=n/\n<len/\z'=z then some (.ptr b (o+n.toNat*z))else none
   |_,_=>none
 | .GO len z x i=>match ρ x,ρ i with
   | .ptr b o,.int _ n=>if 0<=n/\n<len then some (.ptr b (o+n.toNat*z))else none
   |_,_=>none
 | .Lo len z agg x i=>match ρ x,ρ i with
   | .agg al,.int _ n=>if 0<=n/\n<len then x7 al (n.toNat*z) z agg else none
   |_,_=>none
 | .extract i x=>match ρ x with| .bN vs=>vs[i]? |_=>none
 | .Cu t ok x=>match ρ x with
   | .iface t' v=>if t'=t then some (match ok with|some _=>.bN [v,.bool true]|none=>v)else ok.map fun z=>.bN [z,.bool false]
   | .jC=>ok.map fun z=>.bN [z,.bool false]
   |_=>none
 | .uQ x=>match ρ x with| .slice _ _ len _ _=>some (.int .i64 len)| .br=>some (.int .i64 0)|_=>none
 | .LF x=>match ρ x with| .str s=>some (.int .i64 s.size)|_=>none
 | .xX iB x y=>match ρ x,ρ y with
   | .int k a,.int a9 b=>if k=a9 then some (.int k (if iB then(if b>a then b else a)else(if b<a then b else a)))else none
   |_,_=>none
def im(dt:List V):Nat->List V
 |0=>[]
 |n+1=>dt++im dt n
def nB(al:List V):jq:=.cells false al.length (T.ofList .e 0 al)
def nT(ρ:aG->V):pq->Option (jq×(Nat->V))
 | .alloc dt=>some (nB dt,fun b=>.ptr b 0)
 | .box x=>if(ρ x).known=true then some (nB (ρ x).cells,fun b=>.ptr b 0)else none
 | .ul len z dt hk=>if len*z<=16777216 then(pY (im dt len) (hk.map fun p=>(p.1,p.2.1,ρ p.2.2))).map fun al=>(nB al,fun b=>.slice b 0 len len z)else none
 | .mkSlice z bytes dt l c=>match ρ l,ρ c with
   | .int .i64 a,.int .i64 b=>if 0<=a/\a<=b/\b<=1048576/\bytes<=1024 then some (nB (im dt b.toNat),fun r=>.slice r 0 a.toNat b.toNat z)else none
   |_,_=>none
 | .mkMap=>some (.map false [],fun b=>.map b)
def l1:V->V->Option Bool
 | .int k a,.int a9 b=>if k=a9 then some (a==b)else none
 |_,_=>none
def kG(k:V):List (V×V)->Option V
 |[]=>none
 |(a9,v)::r=>if l1 k a9=some true then some v else kG k r
def kF(k:V)(es:List (V×V)):Option (Option V):=
 match k with
 | .int _ _=>if es.all (fun e=>(l1 k e.1).isSome)=true then some (kG k es)else none
 |_=>none
def nR(k v:V):List (V×V)->List (V×V)
 |[]=>[(k,v)]
 |(a9,v')::r=>if l1 k a9=some true then(k,v)::r else(a9,v')::nR k v r
def mE(k:V):List (V×V)->List (V×V)
 |[]=>[]
 |(a9,v')::r=>if l1 k a9=some true then r else(a9,v')::mE k r
inductive R where
 |val (v:V) (σ:H)
 |enter (f:FuncId) (args:List V) (σ:H)
 |fN (v:V) (σ:H)
def oh(σ:H)(n:Nat)(agg:Bool):V->Option V
 | .ptr b o=>match σ.l2 b o n with
   |some al=>if agg then some (.agg al)else al[0]?
   |none=>none
 |_=>none
def ptrEq(σ:H):V->V->Option Bool
 | .ptr b o,.ptr b' mT=>if b=b' then some (o==mT)else
   match σ.get b,σ.get b' with
   |some (.cells false _ _),some (.cells false _ _)=>some false
   |_,_=>none
 |x,y=>sl .ptr x y
def tP(σ:H)(z:Nat):V->Option (Nat×List V)
 | .br=>some (0,[])
 | .slice b o len _ z'=>if z'=z then(σ.l2 b o (len*z)).map fun l=>(len,l)else none
 |_=>none
def ow(σ:H)(z bytes:Nat)(s x:V):Option (V×H):=
 match tP σ z x with
 |none=>none
 |some (n,new)=>
  match s with
  | .br=>if n=0 then some (.br,σ)else if n<=1048576/\bytes<=1024 then some (.slice σ.next 0 n n z,σ.new (nB new))else none
  | .slice b o len cap z'=>
    if z'≠z then none else
    if n=0 then some (.slice b o len cap z',σ)else
    if len+n<=cap then(σ.pe b (o+len*z) new).map fun σ'=>(.slice b o (len+n) cap z,σ')
    else if len+n<=1048576/\bytes<=1024/\new.all V.cell=true then
     match σ.get b,σ.l2 b o (len*z)with
     |some (.cells false _ _),some old=>some (.slice σ.next 0 (len+n) (len+n) z,(σ.kill b).new (nB (old++new)))
     |_,_=>none
    else none
  |_=>none
def copyV(σ:H)(z:Nat)(d s:V):Option (V×H):=
 match d,s with
 | .br,.br| .br,.slice _ _ _ _ _| .slice _ _ _ _ _,.br=>some (.int .i64 0,σ)
 | .slice b o len _ r8,.slice b' mT qi _ ny=>
   if r8=z/\ny=z then
    match σ.l2 b' mT (min qi len*z)with
    |some al=>if min qi len=0 then some (.int .i64 0,σ)else(σ.pe b o al).map fun σ'=>(.int .i64 (min qi len:Nat),σ')
    |none=>none
   else none
 |_,_=>none
inductive Cg where
 |fn (f:FuncId)
 |vz
abbrev iV:=TypeId->String->Option Cg
def uS(m:iV)(σ:H)(t:TypeId)(v:V)(name:String):Option (FuncId×V):=
 match m t name with
 |some (.fn f)=>some (f,v)
 |some .vz=>match oh σ 1 false v with
  |some (.iface t' v')=>match m t' name with
   |some (.fn f)=>some (f,v')
   |_=>none
  |_=>none
 |none=>none
def step(m:iV)(σ:H)(ρ:aG->V):X->Option R
 | .l x=>(gX ρ x).map fun v=>.val v σ
 | .a x=>(nT ρ x).map fun p=>.val (p.2 σ.next) (σ.new p.1)
 | .load n agg a=>(oh σ n agg (ρ a)).map fun v=>.val v σ
 | .store n a v=>match ρ a with
   | .ptr b o=>if(ρ v).cells.length=n then(σ.pe b o (ρ v).cells).map fun σ'=>.val .undef σ' else none
   |_=>none
 | .yN neg x y=>(ptrEq σ (ρ x) (ρ y)).map fun r=>.val (.bool (if neg then !r else r)) σ
 | .EZ n z x fa aC=>
   match ρ x with
   | .ptr b o=>
     match σ.get b,ix n (aC.map ρ),ix 0 (fa.map ρ)with
     |some (.cells _ m _),some h,some l=>if l<=h/\h<=n/\l<n/\o+n*z<=m then some (.val (.slice b (o+l*z) (h-l) (n-l) z) σ)else none
     |_,_,_=>none
   |_=>none
 | .lookup zero ok mp k=>match ρ mp with
   | .hC=>some (.val (if ok then .bN [zero,.bool false]else zero) σ)
   | .map r=>match σ.get r with
     |some (.map _ es)=>match kF (ρ k) es with
      |some (some v)=>some (.val (if ok then .bN [v,.bool true]else v) σ)
      |some none=>some (.val (if ok then .bN [zero,.bool false]else zero) σ)
      |none=>none
     |_=>none
   |_=>none
 | .update mp k v=>match ρ mp with
   | .map r=>match σ.get r with
     |some (.map false es)=>match kF (ρ k) es with
      |some _=>some (.val .undef (σ.set r (.map false (nR (ρ k) (ρ v) es))))
      |none=>none
     |_=>none
   |_=>none
 | .delete mp k=>match ρ mp with
   | .map r=>match σ.get r with
     |some (.map false es)=>match kF (ρ k) es with
      |some _=>some (.val (.bN []) (σ.set r (.map false (mE (ρ k) es))))
      |none=>none
     |_=>none
   |_=>none
 | .wm mp=>match ρ mp with
   | .hC=>some (.val (.int .i64 0) σ)
   | .map r=>match σ.get r with
     |some (.map _ es)=>some (.val (.int .i64 es.length) σ)
     |_=>none
   |_=>none
 | .append z bytes s x=>(ow σ z bytes (ρ s) (ρ x)).map fun p=>.val p.1 p.2
 | .copy z d s=>(copyV σ z (ρ d) (ρ s)).map fun p=>.val p.1 p.2
 | .vt dt x=>match ρ x with
   | .br=>some (.val (.bN []) σ)
   | .slice b o len _ z=>if len=0 then some (.val (.bN []) σ)else if z=dt.length then(σ.pe b o (im dt len)).map fun σ'=>.val (.bN []) σ' else none
   |_=>none
 | .call f args=>some (.enter f (args.map ρ) σ)
 | .pr f args=>match ρ f with
   | .fn (.func f) first cap=>some (.enter f (first++args.map ρ++cap) σ)
   |_=>none
 | .invoke name recv args=>match ρ recv with
   | .iface t v=>match uS m σ t v name with
     |some p=>some (.enter p.1 (p.2::args.map ρ) σ)
     |none=>none
   |_=>none
 | .panic x=>match ρ x with
   | .iface t v=>some (.fN (.iface t v) σ)
   |_=>none
inductive ll where
 |ret (v:V) (σ:H)
 |fN (v:V) (σ:H)
inductive kl where
 |ok (t:T V) (σ:H)
 |fN (v:V) (t:T V) (σ:H)
abbrev Call:=FuncId->List V->H->Option ll
def dp(t:T V):Option Nat->V->T V
 |none,_=>t
 |some d,v=>t.put d (some v)
def pf(t:T V):Option (Nat×Bool)->Bool
 |none=>false
 |some (j,_)=> !(aW t (.t j)).known
def nX(t:T V):Option (Nat×Bool)->Bool
 |none=>true
 |some (j,b)=>match aW t (.t j)with| .bool c=>c==b|_=>false
variable(m:iV)
def ll.gb(t:T V)(d:Option Nat):ll->kl
 | .ret v σ=>.ok (dp t d v) σ
 | .fN v σ=>.fN v t σ
def km(call:Call)(o:Op)(t:T V)(σ:H):Option kl:=
 if pf t o.g then none else
 if nX t o.g then
  match step m σ (aW t) o.x with
  |some (.val v σ')=>some (.ok (dp t o.dst v) σ')
  |some (.enter f args σ')=>(call f args σ').map (ll.gb t o.dst)
  |some (.fN v σ')=>some (.fN v t σ')
  |none=>none
 else some (.ok (dp t o.dst .undef) σ)
def vA(call:Call):List Op->T V->H->Option kl
 |[],t,σ=>some (.ok t σ)
 |o::r,t,σ=>match km m call o t σ with
  |some (.ok t' σ')=>vA call r t' σ'
  |x=>x
mutual
def V.same:Nat->V->V->Bool
 |n+1,.fn f a b,.fn g c d=>decide (f=g)&&V.r1 n a c&&V.r1 n b d
 |n+1,.iface t v,.iface u w=>decide (t=u)&&V.same n v w
 |n+1,.agg a,.agg b=>V.r1 n a b
 |n+1,.bN a,.bN b=>V.r1 n a b
 |_,.undef,.undef=>true
 |_,.bool a,.bool b=>a==b
 |_,.int k a,.int j b=>decide (k=j)&&decide (a=b)
 |_,.ptr a b,.ptr c d=>decide (a=c)&&decide (b=d)
 |_,.nil,.nil=>true
 |_,.slice a b c d e,.slice a' b' c' yK ee=>decide (a=a')&&decide (b=b')&&decide (c=c')&&decide (d=yK)&&decide (e=ee)
 |_,.br,.br=>true
 |_,.map a,.map b=>decide (a=b)
 |_,.hC,.hC=>true
 |_,.fZ,.fZ=>true
 |_,.jC,.jC=>true
 |_,.any,.any=>true
 |_,_,_=>false
def V.r1:Nat->List V->List V->Bool
 |n+1,a::as,b::dv=>V.same n a b&&V.r1 n as dv
 |_,[],[]=>true
 |_,_,_=>false
end
def held(n:Nat)(agg:Bool)(a v:V):Nat->List H->Bool
 |0,_=>true
 |k+1,σ::r=>(match oh σ n agg a with|some u=>V.same 40 u v|none=>false)&&held n agg a v k r
 |_+1,[]=>false
def qH(base:Nat)(i:dg)(t:T V)(σ:H)(cs:List H):Option (T V×H):=
 if pf t i.o.g then none else
 if nX t i.o.g then
  match i.o.x with
  | .l x=>(gX (aW t) x).map fun v=>(dp t i.o.dst v,σ)
  | .a x=>(nT (aW t) x).map fun p=>(dp t i.o.dst (p.2 (base+i.idx)),σ.set (base+i.idx) p.1)
  | .load n agg a=>match oh σ n agg (aW t a)with
    |some v=>if held n agg (aW t a) v i.back cs then some (dp t i.o.dst v,σ)else none
    |none=>none
  |_=>none
 else some (dp t i.o.dst .undef,σ)
def yO(base k:Nat):List dg->T V->H->List H->Bool
 |[],_,_,_=>true
 |i::r,t,σ,cs=>
  if i.f_ then yO base k r (dp t i.o.dst .undef) σ (σ::cs)
  else if i.jx.testBit k then yO base k r (dp t i.o.dst .undef) σ cs
  else match qH base i t σ cs with
   |some p=>yO base k r p.1 p.2 cs
   |none=>false
def sm(call:Call)(base:Nat):List dg->T V->H->List H->Option kl
 |[],t,σ,_=>some (.ok t σ)
 |i::r,t,σ,cs=>
  if i.f_ then
   match km m call i.o t σ with
   |some (.ok t' σ')=>sm call base r t' σ' (σ'::cs)
   |some (.fN v _ σ')=>if yO base i.idx r (dp t i.o.dst .undef) σ (σ::cs)then some (.fN v t σ')else none
   |none=>none
  else
   match qH base i t σ cs with
   |some p=>sm call base r p.1 p.2 cs
   |none=>none
def wP(t:T V):List dg->T V
 |[]=>t
 |i::r=>dp (wP t r) i.o.dst .any
def H.room(σ:H)(n:Nat):H:=⟨σ.t,σ.next+n⟩
inductive vj where
 |normal
 |exit (id:Nat)
 |ret
 |fN (v:V)
abbrev qy:=FuncId×List V
structure Out where
 x:vj
 t:T V
 ds:List qy
 σ:H
def kl.out(ds:List qy):kl->Out
 | .ok t σ=>⟨.normal,t,ds,σ⟩
 | .fN v t σ=>⟨.fN v,t,ds,σ⟩
def kl.Uc(ds:List qy)(t0:T V)(l:List dg):kl->Out
 | .ok t σ=>⟨.normal,t,ds,σ⟩
 | .fN v _ σ=>⟨.fN v,wP t0 l,ds,σ⟩
def iter(body:T V->List qy->H->Option Out):Nat->T V->List qy->H->Option Out
 |0,_,_,_=>none
 |n+1,t,ds,σ=>match body t ds σ with
  |some ⟨.normal,t',rC,σ'⟩=>iter body n t' rC σ'
  |r=>r
def hT(call:Call)(gM:Nat):C->T V->List qy->H->Option Out
 | .skip,t,ds,σ=>some ⟨.normal,t,ds,σ⟩
 | .ao l,t,ds,σ=>(vA m call l t σ).map (kl.out ds)
 | .draw l,t,ds,σ=>(sm m call σ.next l t (σ.room l.length) [σ.room l.length]).map (kl.Uc ds t l)
 | .seq a b,t,ds,σ=>match hT call gM a t ds σ with
   |some ⟨.normal,t',rC,σ'⟩=>hT call gM b t' rC σ'
   |r=>r
 | .cond c a b,t,ds,σ=>match aW t c with
   | .bool x=>if x then hT call gM a t ds σ else hT call gM b t ds σ
   |_=>none
 | .block id c,t,ds,σ=>match hT call gM c t ds σ with
   |some ⟨.exit i,t',rC,σ'⟩=>if i=id then some ⟨.normal,t',rC,σ'⟩else some ⟨.exit i,t',rC,σ'⟩
   |r=>r
 | .loop c,t,ds,σ=>iter (hT call gM c) gM t ds σ
 | .exit id,t,ds,σ=>some ⟨.exit id,t,ds,σ⟩
 | .ret,t,ds,σ=>some ⟨.ret,t,ds,σ⟩
 | .oz d f args,t,ds,σ=>some ⟨.normal,dp t d .undef,(f,args.map (aW t))::ds,σ⟩
def C.plain:C->C
 | .seq a b=>.seq a.plain b.plain
 | .cond q a b=>.cond q a.plain b.plain
 | .block i c=>.block i c.plain
 | .loop c=>.loop c.plain
 |c=>c
def bn.plain(f:bn):bn:={f with body:=f.body.plain}
def pG(t:T V)(σ:H):List vq->Option (List V)
 |[]=>some []
 | .tmp i::r=>(pG t σ r).map fun l=>aW t (.t i)::l
 | .cell a n agg::r=>match oh σ n agg (aW t (.t a))with
   |some v=>(pG t σ r).map fun l=>v::l
   |none=>none
def q7:List V->V
 |[v]=>v
 |l=>.bN l
def Out.ends:Out->Option (T V×H)
 |⟨.normal,t,[],σ⟩=>some (t,σ)
 |⟨.ret,t,[],σ⟩=>some (t,σ)
 |_=>none
def Jh(jn:FuncId->Option bn)(call:Call)(gM:Nat)(f:FuncId)(args:List V)(u:Option V)(σ:H):Option (Option V×H):=
 match jn f with
 |none=>none
 |some fn=>
  match(hT m call gM fn.body (match fn.wH with|none=>T.ofList .e 0 args|some d=>dp (T.ofList .e 0 args) d (u.getD .jC)) [] σ).bind Out.ends with
  |none=>none
  |some p=>(pG p.1 p.2 fn.j8).map fun _=>(match fn.wH with|none=>u|some _=>none,p.2)
def BW(jn:FuncId->Option bn)(call:Call)(gM:Nat):List qy->Option V->H->Option (Option V×H)
 |[],u,σ=>some (u,σ)
 |d::ds,u,σ=>match Jh m jn call gM d.1 d.2 u σ with
  |some p=>BW jn call gM ds p.1 p.2
  |none=>none
def vj.mode:vj->Option (Option V)
 | .normal| .ret=>some none
 | .fN v=>some (some v)
 | .exit _=>none
def ur(r3:Call)(jn:FuncId->Option bn)(gM:Nat):Nat->Call
 |0=>fun _ _ _=>none
 |d+1=>fun f args σ=>
  match r3 f args σ with
  |some r=>some r
  |none=>
   match jn f with
   |none=>none
   |some fn=>if fn.wH.isSome then none else
    match hT m (ur r3 jn gM d) gM fn.body (T.ofList .e 0 args) [] σ with
    |none=>none
    |some o=>match o.x.mode with
     |none=>none
     |some u=>match BW m jn (ur r3 jn gM d) gM o.ds u o.σ with
      |some (none,σ')=>(pG o.t σ' fn.j8).map fun l=>.ret (q7 l) σ'
      |some (some v,σ')=>some (.fN v σ')
      |none=>none
end Go.Abs
namespace Go.Abs
structure pQ where
 b4:Nat
 off:Nat
 size:Nat
abbrev F:=Nat->Option pQ
mutual
inductive cu(φ:F):V->Value->Prop
 |undef:cu φ .undef Go.undef
 |bool (b:Bool):cu φ (.bool b) (.bool b)
 |int (k:IntKind) (n:Int):cu φ (.int k n) (.int k n)
 |str (s:ByteArray):cu φ (.str s) (.string s)
 |ptr (b o:Nat) (p:pQ) (h:φ b=some p):cu φ (.ptr b o) (.pointer (some ⟨p.b4,p.off+o,none⟩))
 |nil:cu φ .nil (.pointer none)
 |slice (b o len cap z gG:Nat) (p:pQ) (h:φ b=some p) (J:len<=cap) (U:cap<=gG) (aq:p.off+o+gG*z<=p.size):
  cu φ (.slice b o len cap z) (.slice (some ⟨p.b4,p.off+o,none⟩) len gG)
 |yb (b o z:Nat) (a:Addr):cu φ (.slice b o 0 0 z) (.slice (some a) 0 0)
 |br:cu φ .br (.slice none 0 0)
 |map (b:Nat) (p:pQ) (h:φ b=some p):cu φ (.map b) (.map (some p.b4))
 |hC:cu φ .hC (.map none)
 |fn (f:Fn) (a c:List V) (a' c':List Value) (J:eD φ a a') (U:eD φ c c'):cu φ (.fn f a c) (.func f ⟨a'⟩ ⟨c'⟩)
 |fZ:cu φ .fZ .nilFunc
 |iface (t:TypeId) (v:V) (v':Value) (h:cu φ v v'):cu φ (.iface t v) (.iface t v')
 |jC:cu φ .jC .nilIface
 |agg (al:List V) (eT:List Value) (h:eD φ al eT):cu φ (.agg al) (.agg ⟨eT⟩)
 |bN (al:List V) (eT:List Value) (h:eD φ al eT):cu φ (.bN al) (.tuple ⟨eT⟩)
 |any (v':Value):cu φ .any v'
inductive eD(φ:F):List V->List Value->Prop
 |nil:eD φ [] []
 |cons (v:V) (v':Value) (l:List V) (l':List Value) (h:cu φ v v') (t:eD φ l l'):eD φ (v::l) (v'::l')
end
def F.le(φ ec:F):Prop:=∀b p,φ b=some p->ec b=some p
theorem F.le_refl(φ:F):φ.le φ:=fun _ _ h=>h
theorem F.le_trans{φ ec ata:F}(h:φ.le ec)(g:ec.le ata):φ.le ata:=fun b p ad=>g b p (h b p ad)
mutual
theorem cu.mono{φ ec:F}(h:φ.le ec):∀{v:V} {v':Value},cu φ v v'->cu ec v v'
 |_,_,.undef=>.undef
 |_,_,.bool b=>.bool b
 |_,_,.int k n=>.int k n
 |_,_,.str s=>.str s
 |_,_,.ptr b o p aB=>.ptr b o p (h _ _ aB)
 |_,_,.nil=>.nil
 |_,_,.slice b o len cap z gG p aB J U aq=>.slice b o len cap z gG p (h _ _ aB) J U aq
 |_,_,.yb b o z a=>.yb b o z a
 |_,_,.br=>.br
 |_,_,.map b p aB=>.map b p (h _ _ aB)
 |_,_,.hC=>.hC
 |_,_,.fn f a c a' c' J U=>.fn f a c a' c' (eD.mono h J) (eD.mono h U)
 |_,_,.fZ=>.fZ
 |_,_,.iface t v v' hv=>.iface t v v' (cu.mono h hv)
 |_,_,.jC=>.jC
 |_,_,.agg al eT af=>.agg al eT (eD.mono h af)
 |_,_,.bN al eT af=>.bN al eT (eD.mono h af)
 |_,_,.any v'=>.any v'
theorem eD.mono{φ ec:F}(h:φ.le ec):∀{l:List V} {l':List Value},eD φ l l'->eD ec l l'
 |_,_,.nil=>.nil
 |_,_,.cons v v' l l' hv bg=>.cons v v' l l' (cu.mono h hv) (eD.mono h bg)
end
namespace eD
variable{φ:F}
theorem length:∀{l:List V} {l':List Value},eD φ l l'->l.length=l'.length
 |_,_,.nil=>rfl
 |_,_,.cons _ _ _ _ _ t=>by simp[length t]
theorem get:∀{l:List V} {l':List Value},eD φ l l'->∀(i:Nat) (v:V),l[i]? =some v->∃v',l'[i]? =some v'/\cu φ v v'
 |_,_,.nil,_,_,h=>by simp at h
 |_,_,.cons v v' l l' hv t,0,u,h=>by simp at h;subst h;exact⟨v',aM,hv⟩
 |_,_,.cons v v' l l' hv t,i+1,u,h=>by
  have ay:l[i]? =some u:=by simpa using h
  obtain⟨bj,e,r⟩:=get t i u ay
  exact⟨bj,by simpa using e,r⟩
theorem Ef:∀{l:List V} {l':List Value},l.length=l'.length->(∀(i:Nat) (v:V),l[i]? =some v->∃v',l'[i]? =some v'/\cu φ v v')->eD φ l l'
 |[],[],_,_=>.nil
 |v::l,v'::l',aA,h=>by
  obtain⟨u,e,r⟩:=h 0 v aM
  simp at e;subst e
  refine .cons v v' l l' r (Ef (by simpa using aA) fun i w hw=>?_)
  obtain⟨u,e,r⟩:=h (i+1) w (by simpa using hw)
  exact⟨u,by simpa using e,r⟩
theorem append:∀{a:List V} {a':List Value} {b:List V} {b':List Value},eD φ a a'->eD φ b b'->eD φ (a++b) (a'++b')
 |_,_,_,_,.nil,ad=>ad
 |_,_,_,_,.cons v v' l l' hv t,ad=>.cons v v' _ _ hv (append t ad)
theorem set{l:List V}{l':List Value}(h:eD φ l l')(i:Nat){v:V}{v':Value}(hv:cu φ v v'):eD φ (l.set i v) (l'.set i v'):=by
 refine Ef (by simp[h.length]) fun j u hu=>?_
 rw[List.getElem?_set]at hu
 rw[List.getElem?_set]
 by_cases e:i=j
 .subst e
  rw[if_pos rfl]at hu |-
  rw[<-h.length]
  split at hu
  .simp at hu;subst hu;rename_i ap;rw[if_pos ap];exact⟨v',rfl,hv⟩
  .simp at hu
 .rw[if_neg e]at hu |-
  exact h.get j u hu
theorem drop{l:List V}{l':List Value}(h:eD φ l l')(n:Nat):eD φ (l.drop n) (l'.drop n):=by
 refine Ef (by simp[h.length]) fun j u hu=>?_
 rw[List.getElem?_drop]at hu |-
 exact h.get _ _ hu
theorem take{l:List V}{l':List Value}(h:eD φ l l')(n:Nat):eD φ (l.take n) (l'.take n):=by
 refine Ef (by simp[h.length]) fun j u hu=>?_
 rw[List.getElem?_take]at hu |-
 split at hu
 .rename_i ap;rw[if_pos ap];exact h.get _ _ hu
 .simp at hu
theorem Tj{α:Type}(f:α->V)(g:α->Value)(h:∀a,cu φ (f a) (g a)):∀l:List α,eD φ (l.map f) (l.map g)
 |[]=>.nil
 |a::l=>.cons _ _ _ _ (h a) (Tj f g h l)
end eD
theorem V.awA{v:V}(h:v.cells.all V.cell=true):v.known=true:=by
 cases v<;>first|rfl|simp[V.cells,V.cell]at h
theorem cu.cells{φ:F}{v:V}{v':Value}(h:cu φ v v')(ah:v.known=true):eD φ v.cells v'.cells.toList:=by
 cases h<;>first
  |simp[V.known]at ah;done
  |assumption
  |(simp only[V.cells,Value.cells];exact .cons _ _ _ _ (by constructor<;>assumption) .nil)
def wY(w:World)(b4 i:Nat)(v:Value):Prop:=∃al e eI,w.heap[b4]? =some (.cells al e eI)/\al[i]? =some v
structure l6(φ:F)(es:List (V×V))(dh:List MapEntry):Prop where
 len:es.length=dh.length
 ir:∀e∈es,∃ee∈dh,cu φ e.1 ee.key/\cu φ e.2 ee.val
 of:∀ee∈dh,∃e∈es,cu φ e.1 ee.key/\cu φ e.2 ee.val
 ints:∀e∈es,∃k n,e.1= .int k n
 nodup:(es.map (·.1)).Nodup
 xZ:(dh.map (·.key)).Nodup
def ri(φ:F)(w:World)(p:pQ):jq->Prop
 | .cells ro n c=>p.off+n<=p.size/\(∃al e eI,w.heap[p.b4]? =some (.cells al e eI)/\al.size=p.size/\(ro=false->eI=(0,0)))/\∀i,i<n->∃v',wY w p.b4 (p.off+i) v'/\cu φ (kE c i) v'
 | .map ro es=>p.off=0/\∃dh clock,w.heap[p.b4]? =some (.map dh clock)/\l6 φ es dh.toList/\(ro=false->Go.MapKept.Stamped dh clock)
def qE(w:World)(p:pQ):Prop:=
 (∃al e eI,w.heap[p.b4]? =some (.cells al e eI)/\al.size=p.size)\/(∃es clock,w.heap[p.b4]? =some (.map es clock))\/∃m s n c,w.heap[p.b4]? =some (.mapIter m s n c)
structure Rel(φ:F)(σ:H)(w:World):Prop where
 kc:∀b B,σ.get b=some B->∃p,φ b=some p/\ri φ w p B
 inj:∀b B b' lh p ql,σ.get b=some B->σ.get b'=some lh->φ b=some p->φ b'=some ql->p.b4=ql.b4->b=b'
 kY:∀b p,φ b=some p->b<σ.next/\qE w p
theorem Hc{w:World}{k:Nat}{o:Obj}(h:w.heap[k]? =some o):k<w.heap.size:=by
 rcases Nat.lt_or_ge k w.heap.size with ay|ay
 .exact ay
 .simp[Array.getElem?_eq_none ay]at h
theorem qE.lt{w:World}{p:pQ}(h:qE w p):p.b4<w.heap.size:=by
 rcases h with⟨_,_,_,h,_⟩|⟨_,_,h⟩|⟨_,_,_,_,h⟩<;>exact Hc h
def wZ(φ:F)(σ:H)(k:Nat):Prop:=∃b B p,σ.get b=some B/\B.ro=false/\φ b=some p/\p.b4=k
structure cM(φ:F)(σ:H)(w:World)(cz:F)(σ':H)(w':World):Prop where
 rel:Rel cz σ' w'
 ext:φ.le cz
 j4:∀k,k<w.heap.size->¬wZ φ σ k->w'.heap[k]? =w.heap[k]?
 xn:∀k,wZ cz σ' k->wZ φ σ k\/w.heap.size<=k
 size:w.heap.size<=w'.heap.size
 os:w'.os=w.os
 out:w'.output=w.output
 next:σ.next<=σ'.next
 old:∀b,φ b=none->b<σ.next->cz b=none
 back:∀b B,σ'.get b=some B->b<σ.next->∃lh,σ.get b=some lh/\lh.ro=B.ro
 fresh:∀b B,σ'.get b=some B->σ.next<=b->B.ro=false
theorem cM.refl{φ:F}{σ:H}{w:World}(h:Rel φ σ w):cM φ σ w φ σ w:=
 ⟨h,F.le_refl φ,fun _ _ _=>rfl,fun _ h=>.inl h,Nat.le_refl _,rfl,rfl,Nat.le_refl _,fun _ h _=>h,fun _ B h _=>⟨B,h,rfl⟩,fun b B ad az=>by
   obtain⟨p,aB,_⟩:=h.kc b B ad
   have:=(h.kY b p aB).1
   omega⟩
theorem cM.trans{φ cz as_:F}{σ σ' as9:H}{w w' asM:World}(a:cM φ σ w cz σ' w')(b:cM cz σ' w' as_ as9 asM):cM φ σ w as_ as9 asM where
 rel:=b.rel
 ext:=F.le_trans a.ext b.ext
 j4 k ah aV:=by
  have gg:k<w'.heap.size:=Nat.lt_of_lt_of_le ah a.size
  have:¬wZ cz σ' k:=fun h=>by
   rcases a.xn k h with h|h
   .exact aV h
   .omega
  rw[b.j4 k gg this,a.j4 k ah aV]
 xn k h:=by
  rcases b.xn k h with h|h
  .exact a.xn k h
  .exact .inr (Nat.le_trans a.size h)
 size:=Nat.le_trans a.size b.size
 os:=b.os.trans a.os
 out:=b.out.trans a.out
 next:=Nat.le_trans a.next b.next
 old k h ah:=b.old k (a.old k h ah) (Nat.lt_of_lt_of_le ah a.next)
 back k B h ah:=by
  obtain⟨Il,J,aD⟩:=b.back k B h (Nat.lt_of_lt_of_le ah a.next)
  obtain⟨ub,U,aJ⟩:=a.back k Il J ah
  exact⟨ub,U,aJ.trans aD⟩
 fresh k B h ah:=by
  rcases Nat.lt_or_ge k σ'.next with ay|ay
  .obtain⟨Il,J,aD⟩:=b.back k B h ay
   rw[<-aD];exact a.fresh k Il J ah
  .exact b.fresh k B h ay
theorem aIl(c:T V):∀(n i j:Nat),(qs c i n)[j]? =if j<n then some (kE c (i+j))else none:=by
 intro n
 induction n with
 |zero=>intro i j;simp[qs]
 |succ n c0=>
  intro i j
  cases j with
  |zero=>simp[qs]
  |succ j=>
   simp only[qs,List.getElem?_cons_succ,c0]
   simp[Nat.add_assoc,Nat.add_comm 1 j]
theorem aIm(c:T V):∀(n i:Nat),(qs c i n).length=n:=by
 intro n
 induction n with
 |zero=>intro i;rfl
 |succ n c0=>intro i;simp[qs,c0]
theorem wY.cell{w:World}{b4 i:Nat}{v:Value}(h:wY w b4 i v):w.cell? ⟨b4,i,none⟩=some v:=by
 obtain⟨al,e,_,J,U⟩:=h
 simp[World.cell?,J,U]
theorem Rel.l2{φ:F}{σ:H}{w:World}(h:Rel φ σ w){b o n:Nat}{l:List V}(aA:σ.l2 b o n=some l):
 l.length=n/\∃p,φ b=some p/\p.off+o+n<=p.size/\∃l':List Value,eD φ l l'/\∀j v,l'[j]? =some v->wY w p.b4 (p.off+o+j) v:=by
 unfold H.l2 at aA
 split at aA
 .rename_i r m c ad
  split at aA
  .rename_i hle
   simp at aA;subst aA
   obtain⟨p,aB,hh,_,af⟩:=h.kc b _ ad
   refine⟨aIm _ _ _,p,aB,I,?_⟩
   have key:∀(n o:Nat),o+n<=m->∃l':List Value,eD φ (qs c o n) l'/\∀j v,l'[j]? =some v->wY w p.b4 (p.off+o+j) v:=by
    intro n
    induction n with
    |zero=>intro o _;exact⟨[],.nil,aM⟩
    |succ n c0=>
     intro o au
     obtain⟨l',p',lS⟩:=c0 (o+1) I
     obtain⟨v',ga,ak⟩:=af o I
     refine⟨v'::l',.cons _ _ _ _ ak p',?_⟩
     intro j v ax
     cases j with
     |zero=>simp at ax;subst ax;exact ga
     |succ j=>
      have:=lS j v (by simpa using ax)
      rwa [show p.off+o+(j+1)=p.off+(o+1)+j from I]
   exact key n o hle
  .simp at aA
 .simp at aA
end Go.Abs
namespace Go.Abs
section
def mr{α β:Type}(f:α->Option β):List α->Option (List β)
 |[]=>some []
 |a::l=>match f a,mr f l with
  |some b,some r=>some (b::r)
  |_,_=>none
def BG:Value->Option V
 | .bool b=>some (.bool b)
 | .int k n=>some (.int k n)
 | .string s=>some (.str s)
 | .pointer none=>some .nil
 | .slice none 0 0=>some .br
 | .map none=>some .hC
 | .nilFunc=>some .fZ
 | .nilIface=>some .jC
 |_=>none
def ofValue:Value->Option V
 | .agg al=>(mr BG al.toList).map .agg
 |v=>BG v
theorem TS{φ:F}{v':Value}{v:V}(h:BG v'=some v):cu φ v v':=by
 unfold BG at h
 split at h<;>simp at h<;>subst h<;>constructor
theorem T7{φ:F}:∀{l':List Value} {l:List V},mr BG l'=some l->eD φ l l'
 |[],_,h=>by simp[mr]at h;subst h;exact .nil
 |v'::l',_,h=>by
  simp only[mr]at h
  split at h
  .rename_i b r ad ak
   simp at h;subst h
   exact .cons _ _ _ _ (TS ad) (T7 ak)
  .simp at h
theorem TT{φ:F}{v':Value}{v:V}(h:ofValue v'=some v):cu φ v v':=by
 unfold ofValue at h
 split at h
 .rename_i al
  simp only[Option.map_eq_some_iff]at h
  obtain⟨l,aA,rfl⟩:=h
  obtain⟨al⟩:=al
  exact .agg _ _ (T7 aA)
 .exact TS h
def zeroOf(P:Program)(t:TypeId):Option V:=((P.info? t).bind (·.zero)).bind ofValue
def jQ(P:Program)(t:TypeId):Option Nat:=(P.info? t).map (·.size)
def se(P:Program)(t:TypeId):Option Bool:=(P.underlying t).map fun d=>match d with| .struct _| .array _ _=>true|_=>false
section
variable{P:Program}{w:World}{t:TypeId}
theorem mX{n:Nat}(h:jQ P t=some n)(w:World):(sizeOf t).run P w= .ok n w:=by
 unfold jQ at h
 simp only[Option.map_eq_some_iff]at h
 obtain⟨i,aC,rfl⟩:=h
 simp[sizeOf,typeInfo,aC]
theorem HP{b:Bool}(h:se P t=some b)(w:World):(isAgg t).run P w= .ok b w:=by
 unfold se at h
 simp only[Option.map_eq_some_iff]at h
 obtain⟨d,aH,rfl⟩:=h
 cases d<;>simp[isAgg,run_underlying aH]
theorem Ex{v:V}(h:zeroOf P t=some v)(φ:F)(w:World):∃v',(zeroValue t).run P w= .ok v' w/\cu φ v v':=by
 unfold zeroOf at h
 cases aC:P.info? t with
 |none=>simp[aC]at h
 |some i=>
  cases bB:i.zero with
  |none=>simp[aC,bB]at h
  |some z=>
   simp[aC,bB]at h
   exact⟨z,by simp[zeroValue,typeInfo,aC,bB],TT h⟩
end
def eS(aQ:List Nat):Operand->Option aG
 | .tmp t=>some (.t t)
 | .const v=>(ofValue v).map .c
 | .global g=>some (.c (if aQ.contains g then .ptr g 0 else .any))
 | .func f=>some (.c (.fn (.func f) [] []))
def Ci(φ:F)(t:T V)(tmps:Array Value):Prop:=∀i,cu φ (aW t (.t i)) (tmps.getD i Go.undef)
def nZ(φ:F)(aQ:List Nat):Prop:=∀g,aQ.contains g=true->∃p,φ g=some p/\p.b4=g/\p.off=0
def Env(φ:F)(aQ:List Nat)(ρ:aG->V)(ρ':Operand->Value):Prop:=∀q x,eS aQ q=some x->cu φ (ρ x) (ρ' q)
theorem FY{φ:F}{aQ:List Nat}{t:T V}{a:Act}(bg:Ci φ t a.tmps)(aw:nZ φ aQ):Env φ aQ (aW t) a.eval:=by
 intro q x h
 cases q with
 |tmp i=>simp[eS]at h;subst h;exact bg i
 |const v=>
  simp only[eS,Option.map_eq_some_iff]at h
  obtain⟨u,hu,rfl⟩:=h
  exact TT hu
 |global g=>
  simp only[eS,Option.some.injEq]at h
  subst h
  split
  .rename_i af
   obtain⟨p,aB,J,U⟩:=aw g af
   have:=cu.ptr (φ:=φ) g 0 p aB
   rw[J,U]at this
   exact this
  .exact .any _
 |func f=>
  simp[eS]at h;subst h
  exact .fn _ _ _ _ _ .nil .nil
def zZ(aQ:List Nat)(place:Nat->Option (Nat×Nat)):List (Nat×Operand)->Option (List (Nat×Nat×aG))
 |[]=>some []
 |(i,x)::r=>match place i,eS aQ x,zZ aQ place r with
  |some (off,size),some y,some l=>some ((off,size,y)::l)
  |_,_,_=>none
def placesOf(P:Program):List Field->Option (List (Nat×Nat))
 |[]=>some []
 |f::r=>match jQ P f.type,placesOf P r with
  |some n,some l=>some ((f.offset,n)::l)
  |_,_=>none
theorem run_places{P:Program}{w:World}:∀{cU:List Field} {l:List (Nat×Nat)},placesOf P cU=some l->
 (cU.mapM fun f=>do pure (f.offset,<-sizeOf f.type):Sem (List (Nat×Nat))).run P w= .ok l w
 |[],_,h=>by simp[placesOf]at h;subst h;rfl
 |f::r,_,h=>by
  simp only[placesOf]at h
  split at h
  .rename_i n l az aA
   simp at h;subst h
   have c0:=run_places (w:=w) aA
   simp only[bind_pure_comp]at c0
   simp[List.mapM_cons,mX az,c0]
  .simp at h
theorem ar_{φ:F}:∀{vs:List V} {hy:List Value} {al:List V} {eT:List Value} {off:Nat},eD φ vs hy->eD φ al eT->
 eD φ (nQ al off vs) ((hy.zipIdx off).foldl (fun al (c,j)=>al.set j c) eT)
 |_,_,_,_,_,.nil,h=>by simpa[nQ]using h
 |_,_,_,_,off,.cons v v' l l' hv t,h=>by
  simp only[nQ,List.zipIdx_cons,List.foldl_cons]
  exact ar_ t (h.set off hv)
theorem axU(off:Nat)(vs:List Value):∀(j:Nat) (cells:List Value),
 ((vs.zipIdx j).toArray.foldl (fun al (c,j)=>al.setIfInBounds (off+j) c) (⟨cells⟩:Array Value))=⟨(vs.zipIdx (off+j)).foldl (fun al (c,j)=>al.set j c) cells⟩:=by
 induction vs with
 |nil=>intro j cells;simp
 |cons v l c0=>
  intro j cells
  have:=c0 (j+1) (cells.set (off+j) v)
  simp only[List.zipIdx_cons,List.foldl_toArray,List.foldl_cons]at this |-
  rw[show off+(j+1)=off+j+1 from I]at this
  rw[<-this]
  simp
theorem CM{φ:F}{aQ:List Nat}{ρ:aG->V}{ρ':Operand->Value}(he:Env φ aQ ρ ρ')(place:Nat->Option (Nat×Nat)):
 ∀{hk:List (Nat×Operand)} {l:List (Nat×Nat×aG)} {al r:List V} {eT:List Value},zZ aQ place hk=some l->eD φ al eT->
 pY al (l.map fun p=>(p.1,p.2.1,ρ p.2.2))=some r->
 ∃r',Instr.fill place ⟨eT⟩ (hk.map fun p=>(p.1,ρ' p.2))=some ⟨r'⟩/\eD φ r r'
 |[],_,al,r,eT,h,af,aV=>by
  simp[zZ]at h;subst h
  simp[pY]at aV;subst aV
  exact⟨eT,by simp[Instr.fill],af⟩
 |(i,x)::hk,_,al,r,eT,h,af,aV=>by
  simp only[zZ]at h
  split at h
  .rename_i off size y l aB aj aA
   simp at h;subst h
   simp only[List.map_cons,pY]at aV
   split at aV
   .simp at aV
   .rename_i dy
    have hv:=he x y aj
    have Rm:=hv.cells (by simp only[not_or]at dy;simpa using dy.2.2)
    have hlen:=Rm.length
    have azl:=af.length
    obtain⟨r',J,U⟩:=CM he place aA (ar_ (off:=off) Rm af) aV
    refine⟨r',?_,U⟩
    simp only[List.map_cons,Instr.fill,aB]
    rw[if_neg (by simp at dy hlen azl |-;omega)]
    have e:=axU off (ρ' x).cells.toList 0 eT
    rw[show off+0=off from rfl]at e
    have aJ:((ρ' x).cells.toList.zipIdx 0).toArray=(ρ' x).cells.zipIdx 0:=by rw[<-Array.toList_zipIdx]
    rw[aJ]at e
    rw[e]
    exact J
  .simp at h
end
end Go.Abs
namespace Go.Abs
def AI(aQ:List Nat)(l:Array Operand):Option (List aG):=mr (eS aQ) l.toList
def oy(aQ:List Nat):Option Operand->Option (Option aG)
 |none=>some none
 |some x=>(eS aQ x).map some
def DP(P:Program):Nat->List Field->Bool
 |_,[]=>true
 |i,f::r=>decide (f.offset=i)&&decide (f.name≠ "_")&&(match P.underlying f.type with|some (.int _)=>true|_=>false)&&DP P (i+1) r
def Bu:Operand->Bool
 | .const _=>true
 |_=>false
def CI(P:Program)(t:TypeId)(x y:Operand):Option vi:=
 match P.underlying t with
 |some .bool=>some .bool
 |some (.pointer e)=>match jQ P e with|some (_+1)=>some .ptr|_=>none
 |some (.interface l4)=>if(l4.isEmpty || Bu x || Bu y)=true then some .any else some .iface
 |some (.func _ _ _)=>some .func
 |some (.slice _)=>some .slice
 |some (.map _ _)=>some .map
 |some (.struct cU)=>if P.stoodInHeld t=false/\P.eqGuardType P.depth t=false/\DP P 0 cU.toList=true then some (.ints cU.size)else none
 |_=>none
def kX{α:Type}(aQ:List Nat)(x y:Operand)(f:aG->aG->α):Option α:=
 match eS aQ x,eS aQ y with
 |some a,some b=>some (f a b)
 |_,_=>none
def m4(P:Program)(aQ:List Nat):Go.Op->Option s6
 | .move x=>(eS aQ x).map .uU
 | .assign x=>(eS aQ x).map .uU
 | .pick c a b=>match eS aQ c with
   |some c=>kX aQ a b (.pick c)
   |none=>none
 | .build t parts=>match zeroOf P t,P.underlying t with
   |some (.agg dt),some (.struct cU)=>match placesOf P cU.toList with
    |some pl=>(zZ aQ (fun i=>pl[i]?) parts.toList).map (.build dt)
    |none=>none
   |some (.agg dt),some (.array _ e)=>match jQ P e with
    |some n=>(zZ aQ (fun i=>some (i*n,n)) parts.toList).map (.build dt)
    |none=>none
   |_,_=>none
 | .nilCheck x=>(eS aQ x).map .wu
 | .binOp op t x y _=>match P.underlying t with
   |some (.int _)=>kX aQ x y (if op= .shl\/op= .shr then .shift op else .arith op)
   |_=>if op= .eql\/op= .neq then match CI P t x y with
     |some e=>kX aQ x y (.eq (decide (op= .neq)) e)
     |none=>none
    else none
 | .unOp op _ x=>(eS aQ x).map (.un op)
 | .convert s d x=>match P.underlying s,P.underlying d with
   |some (.int _),some (.int k)=>(eS aQ x).map (.conv k)
   |_,_=>none
 | .makeInterface t x=>match P.underlying t with
   |some (.interface _)=>none
   |some _=>(eS aQ x).map (.D6 t)
   |none=>none
 | .makeFunc fn first cap=>match AI aQ first,AI aQ cap with
   |some a,some b=>some (.zK fn a b)
   |_,_=>none
 | .slice t x fa aC none=>match P.underlying t,oy aQ fa,oy aQ aC with
   |some (.slice e),some fa,some aC=>match jQ P e with
    |some n=>(eS aQ x).map fun x=>.slice n x fa aC
    |none=>none
   |_,_,_=>none
 | .slice t x fa (some aC) (some iB)=>match P.underlying t,oy aQ fa,eS aQ aC,eS aQ iB with
   |some (.slice e),some fa,some aC,some iB=>match jQ P e with
    |some n=>(eS aQ x).map fun x=>.slice3 n x fa aC iB
    |none=>none
   |_,_,_,_=>none
 | .fieldAddr s x f=>match P.underlying s with
   |some (.struct cU)=>match cU[f]? with
    |some fd=>match jQ P fd.type with
     |some (_+1)=>(eS aQ x).map (.fieldAddr fd.offset)
     |_=>none
    |none=>none
   |_=>none
 | .field t x f=>match P.underlying t with
   |some (.struct cU)=>match cU[f]? with
    |some fd=>match jQ P fd.type,se P fd.type with
     |some n,some g=>(eS aQ x).map (.field fd.offset n g)
     |_,_=>none
    |none=>none
   |_=>none
 | .indexAddr t x i=>match P.underlying t with
   |some (.slice e)=>match jQ P e with
    |some (n+1)=>kX aQ x i (.zw (n+1))
    |_=>none
   |some (.array len e)=>match jQ P e with
    |some n=>kX aQ x i (.GO len n)
    |_=>none
   |_=>none
 | .index t x i=>match P.underlying t with
   |some (.array len e)=>match jQ P e,se P e with
    |some n,some g=>kX aQ x i (.Lo len n g)
    |_,_=>none
   |_=>none
 | .extract x i=>(eS aQ x).map (.extract i)
 | .typeAssert x _ t ok=>match P.underlying t with
   |some (.interface _)=>none
   |some _=>if ok then(match zeroOf P t with|some z=>(eS aQ x).map (.Cu t (some z))|none=>none)else(eS aQ x).map (.Cu t none)
   |none=>none
 | .call ⟨.builtin .len,args,bM⟩=>match args.toList,bM[0]? with
   |[x],some t=>match P.underlying t with
    |some (.slice _)=>(eS aQ x).map .uQ
    |some .string=>(eS aQ x).map .LF
    |_=>none
   |_,_=>none
 | .call ⟨.builtin .max,args,_⟩=>match args.toList with
   |[x,y]=>kX aQ x y (.xX true)
   |_=>none
 | .call ⟨.builtin .min,args,_⟩=>match args.toList with
   |[x,y]=>kX aQ x y (.xX false)
   |_=>none
 |_=>none
theorem o2{α:Type}{aQ:List Nat}{x y:Operand}{f:aG->aG->α}{r:α}(h:kX aQ x y f=some r):
 ∃a b,eS aQ x=some a/\eS aQ y=some b/\r=f a b:=by
 unfold kX at h
 split at h
 .rename_i a b a3 ad
  simp at h
  exact⟨a,b,a3,ad,h.symm⟩
 .simp at h
theorem BL{φ:F}{aQ:List Nat}{ρ:aG->V}{ρ':Operand->Value}(he:Env φ aQ ρ ρ'):∀{l:List Operand} {l':List aG},mr (eS aQ) l=some l'->
 eD φ (l'.map ρ) (l.map ρ')
 |[],_,h=>by simp[mr]at h;subst h;exact .nil
 |x::l,_,h=>by
  simp only[mr]at h
  split at h
  .rename_i b r ad ak
   simp at h;subst h
   exact .cons _ _ _ _ (he _ _ ad) (BL he ak)
  .simp at h
section axn
variable{P:Program}{φ:F}{w:World}
theorem aF4(d:Nat):∀(cU:List Field) (i:Nat) (pI vs:List V) (r:Bool) (yg hy:List Value),
 DP P i cU=true->tt cU.length pI vs=some r->(∀(j:Nat) v,pI[j]? =some v->∃v',yg[i+j]? =some v'/\cu φ v v')->(∀(j:Nat) v,vs[j]? =some v->∃v',hy[i+j]? =some v'/\cu φ v v')->
 (Op.eqFields (d+1) ⟨yg⟩ ⟨hy⟩ cU).run P w= .ok r w:=by
 intro cU
 induction cU with
 |nil=>
  intro i pI vs r yg hy _ h _ _
  cases pI<;>cases vs<;>simp[tt]at h
  subst h
  simp[Op.eqFields]
 |cons f cU c0=>
  intro i pI vs r yg hy aC h hu hv
  simp only[DP,Bool.and_eq_true,decide_eq_true_eq]at aC
  obtain⟨⟨⟨au,az⟩,bg⟩,ak⟩:=aC
  cases pI with
  |nil=>cases vs<;>simp[tt]at h
  |cons x pI=>
   cases vs with
   |nil=>cases x<;>simp[tt]at h
   |cons y vs=>
    obtain⟨lg,ex,rx⟩:=hu 0 x aM
    obtain⟨B8,xl,aF6⟩:=hv 0 y aM
    cases x<;>cases y<;>simp[tt]at h
    rename_i k a a9 b
    obtain⟨ah,h⟩:=h
    subst ah
    cases rx;cases aF6
    simp only[Nat.add_zero]at ex xl
    cases GH:P.underlying f.type with
    |none=>simp[GH]at bg
    |some fk=>
     cases fk<;>simp[GH]at bg
     rename_i eX
     have uz:(isAgg f.type).run P w= .ok false w:=by simp[isAgg,run_underlying GH]
     have j6:(part f.type ⟨yg⟩ f.offset).run P w= .ok (.int k a) w:=by simp[part,uz,au,ex]
     have iC:(part f.type ⟨hy⟩ f.offset).run P w= .ok (.int k b) w:=by simp[part,uz,au,xl]
     have q:=run_equalIn_int (P:=P) w d f.type k eX a b GH
     simp only[Op.eqFields]
     rw[if_pos az]
     simp only[Sem.run_bind,j6,iC,q,Result.andThen_ok,Sem.run_ite]
     by_cases y3:a=b
     .subst y3
      simp at h |-
      exact c0 (i+1) pI vs r yg hy ak h (fun j v ax=>by
       obtain⟨v',e,M7⟩:=hu (j+1) v (by simpa using ax)
       exact⟨v',by rw[<-e];congr 1;omega,M7⟩) (fun j v ax=>by
       obtain⟨v',e,M7⟩:=hv (j+1) v (by simpa using ax)
       exact⟨v',by rw[<-e];congr 1;omega,M7⟩)
     .simp[y3]at h |-
      exact h
def Cb(P:Program)(t:TypeId):vi->Prop
 | .bool=>P.underlying t=some .bool
 | .ptr=>∃e n,P.underlying t=some (.pointer e)/\jQ P e=some (n+1)
 | .iface=>∃l4,P.underlying t=some (.interface l4)
 | .any=>∃l4,P.underlying t=some (.interface l4)
 | .func=>∃a b c,P.underlying t=some (.func a b c)
 | .slice=>∃e,P.underlying t=some (.slice e)
 | .map=>∃k e,P.underlying t=some (.map k e)
 | .ints n=>∃cU,P.underlying t=some (.struct cU)/\P.stoodInHeld t=false/\P.eqGuardType P.depth t=false/\DP P 0 cU.toList=true/\n=cU.size
theorem axl{t:TypeId}{x y:Operand}{e:vi}(ah:CI P t x y=some e):Cb P t e:=by
 unfold CI at ah
 split at ah
 .rename_i h;simp at ah;subst ah;exact h
 .rename_i el h
  split at ah
  .rename_i n az;simp at ah;subst ah;exact⟨el,n,h,az⟩
  .simp at ah
 .rename_i l4 h
  split at ah
  .simp at ah;subst ah;exact⟨l4,h⟩
  .simp at ah;subst ah;exact⟨l4,h⟩
 .rename_i a b c h;simp at ah;subst ah;exact⟨a,b,c,h⟩
 .rename_i el h;simp at ah;subst ah;exact⟨el,h⟩
 .rename_i k el h;simp at ah;subst ah;exact⟨k,el,h⟩
 .rename_i cU h
  split at ah
  .rename_i bd;simp at ah;subst ah;exact⟨cU,h,bd.1,bd.2.1,bd.2.2,rfl⟩
  .simp at ah
 .simp at ah
def NU(P:Program)(t:TypeId)(x y:Operand)(e:vi):Prop:=e= .any->Bu x=true\/Bu y=true\/∃l4,P.underlying t=some (.interface l4)/\l4.isEmpty=true
theorem avh{t:TypeId}{x y:Operand}{e:vi}(ah:CI P t x y=some e):NU P t x y e:=by
 rintro rfl
 unfold CI at ah
 split at ah
 case h_3 l4 h=>
  split at ah
  .rename_i af
   simp only[Bool.or_eq_true]at af
   rcases af with(af|af)|af
   .exact .inr (.inr ⟨l4,h,af⟩)
   .exact .inl af
   .exact .inr (.inl af)
  .simp at ah
 all_goals(exfalso;(try split at ah)<;>(try simp at ah)<;>(try split at ah)<;>(try simp at ah))
theorem ayp{t:TypeId}{l4}(hu:P.underlying t=some (.interface l4))(hm:l4.isEmpty=true)(w:World)(d:Nat):(Op.eqGuardIn (d+1) t .nilIface .nilIface).run P w= .ok false w:=by
 simp[Op.eqGuardIn,run_underlying hu,hm]
theorem ayq{t:TypeId}{l4}(hu:P.underlying t=some (.interface l4))(hm:l4.isEmpty=true)(w:World)(op:BinOp)(mf:op= .eql\/op= .neq)(x y:Operand):(eqGuard op t x y .nilIface .nilIface).run P w= .ok () w:=by
 have e5:(Op.eqGuardIn Op.maxDepth t .nilIface .nilIface).run P w= .ok false w:=ayp hu hm w 9999
 rcases mf with rfl|rfl<;>simp[eqGuard,e5]
set_option maxHeartbeats 2000000 in
theorem axk{t:TypeId}{e:vi}(ah:Cb P t e){v u:V}{a b:Value}(hv:cu φ v a)(hu:cu φ u b){r:Bool}(h:sl e v u=some r)(d:Nat)(w:World):
 (Op.equalIn (d+2) t a b).run P w= .ok r w:=by
 unfold sl at h
 split at h
 case h_20 n xs B9=>
  obtain⟨cU,a5,J,U,aq,aK⟩:=ah
  cases hv
  cases hu
  rename_i eT af rC aH
  have aV:P.underlying t=some (.struct (P.fieldsOf t)):=by simp[Program.fieldsOf,a5]
  have cE:(P.fieldsOf t).toList=cU.toList:=by simp[Program.fieldsOf,a5]
  rw[run_equalIn_struct w (d+1) t _ _ aV J,cE]
  exact aF4 (φ:=φ) d cU.toList 0 xs B9 r eT rC aq (by simpa[aK]using h) (fun j v ax=>by simpa using af.get j v ax) (fun j v ax=>by simpa using aH.get j v ax)
 case h_5 b1 g5 b2 hY=>
  obtain⟨el,n,a5,J⟩:=ah
  cases hv
  cases hu
  rename_i p aB iC gQ
  split at h
  .rename_i ad
   subst ad
   rw[aB]at gQ;simp at gQ;subst gQ
   simp at h
   have a3:((⟨p.b4,p.off+g5,none⟩:Addr)==⟨p.b4,p.off+hY,none⟩)=r:=by
    rw[<-h,Bool.eq_iff_iff];simp
   have hh:=mX J w
   generalize d+1=yK
   simp[Op.equalIn,run_underlying a5,hh,sameAddr,a3]
  .simp at h
 case h_21=>simp at h
 all_goals
  simp at h
  subst h
  generalize d+1=yK
  simp only[Cb]at ah
  cases hv<;>cases hu
  all_goals first
   |simp[Op.equalIn,run_underlying ah]
   |(obtain⟨_,ah⟩:=ah;simp[Op.equalIn,run_underlying ah];done)
   |(obtain⟨_,_,ah,_⟩:=ah;simp[Op.equalIn,run_underlying ah];done)
   |(obtain⟨_,_,ah⟩:=ah;simp[Op.equalIn,run_underlying ah];done)
   |(obtain⟨_,_,_,ah⟩:=ah;simp[Op.equalIn,run_underlying ah];done)
set_option maxHeartbeats 2000000 in
theorem JG{t:TypeId}{e:vi}{op:BinOp}(mf:op= .eql\/op= .neq)(x y:Operand)(ah:Cb P t e)(ay7:NU P t x y e){v u:V}{a b:Value}(hv:cu φ v a)(hu:cu φ u b){r:Bool}(h:sl e v u=some r)(w:World):
 (eqGuard op t x y a b).run P w= .ok () w/\(binOp op t a b).run P w= .ok (.bool (if decide (op= .neq)then !r else r)) w:=by
 have q:(Op.equal t a b).run P w= .ok r w:=axk ah hv hu h 9998 w
 unfold sl at h
 split at h
 case h_20 n xs B9=>
  obtain⟨cU,a5,J,U,aq,aK⟩:=ah
  cases hv
  cases hu
  rename_i eT af rC aH
  have g:=run_eqGuard_agg w op t x y ⟨eT⟩ ⟨rC⟩ U
  refine⟨g,?_⟩
  rcases mf with rfl|rfl<;>(simp only[binOp];simp[q])
 case h_17=>
  cases hv;cases hu
  have g:(eqGuard op t x y .nilIface .nilIface).run P w= .ok () w:=by
   rcases ay7 rfl with aj|ai|⟨l4,hu,hm⟩
   .cases x<;>simp[Bu]at aj
    simp[eqGuard]
   .cases y<;>simp[Bu]at ai
    simp[eqGuard]
   .exact ayq hu hm w op mf x y
  refine⟨g,?_⟩
  rcases mf with rfl|rfl<;>(simp only[binOp];simp[q])
 case h_21=>simp at h
 all_goals
  cases hv<;>cases hu
  all_goals(rcases mf with rfl|rfl<;>exact⟨by simp[eqGuard],by simp only[binOp];simp[q]⟩)
end axn
