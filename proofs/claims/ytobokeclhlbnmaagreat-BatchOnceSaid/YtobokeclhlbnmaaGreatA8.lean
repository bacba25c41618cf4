/- Part of the proof of BatchOnce, for every input. -/
import Derived.Test.YtobokeclhlbnmaaGreatA7
set_option linter.all false
namespace Go.Abs
section
variable{α:Type}{A:h3 α}{Γ:ph}{N:fp α}{E:Nat->fp α}{R:fp α}{K:cj α}{t:T V}{g:G}{n:Nat}{a:α}
theorem aHu:b9 A Γ .skip N E R t g n a=N t g n a:=rfl
theorem aHs(x y:C):b9 A Γ (.seq x y) N E R t g n a=b9 A Γ x (fun t g n a=>b9 A Γ y N E R t g n a) E R t g n a:=rfl
theorem aHn(c:aG)(x y:C):b9 A Γ (.cond c x y) N E R t g n a=match aW t c with
 | .bool b=>if b=true then b9 A Γ x N E R t g n a else b9 A Γ y N E R t g n a
 |_=>False:=rfl
theorem aHl(id:Nat)(c:C):b9 A Γ (.block id c) N E R t g n a=b9 A Γ c N (fun i t g n a=>if i=id then N t g n a else E i t g n a) R t g n a:=rfl
theorem aHp(id:Nat):b9 A Γ (.exit id) N E R t g n a=E id t g n a:=rfl
theorem aHr:b9 A Γ .ret N E R t g n a=R t g n a:=rfl
theorem qp{c:C}(Inv:Nat->fp α)(k:Nat)(a5:Inv k t g n a)(aa:∀k t g n a,Inv k t g n a->b9 A Γ c (fun t g n a=>∃a9,a9<k/\Inv a9 t g n a) E R t g n a):b9 A Γ (.loop c) N E R t g n a:=⟨Inv,⟨k,a5⟩,aa⟩
theorem aHO:cI A Γ [] N t g n a=N t g n a:=rfl
theorem aHP(d:Option Nat)(x:X)(r:List Op):cI A Γ (⟨d,x,none⟩::r) N t g n a=cg A Γ x (fun v g' n' a'=>cI A Γ r N (dp t d v) g' n' a') t g n a:=rfl
theorem aHQ(d:Option Nat)(x:X)(j:Nat)(b:Bool)(r:List Op):cI A Γ (⟨d,x,some (j,b)⟩::r) N t g n a=match aW t (.t j)with
 | .bool c=>if c=b then cg A Γ x (fun v g' n' a'=>cI A Γ r N (dp t d v) g' n' a') t g n a else cI A Γ r N (dp t d .undef) g n a
 | .any=>False
 |_=>cI A Γ r N (dp t d .undef) g n a:=rfl
theorem aHH(base len:Nat)(cs:List G):cr A Γ base len [] N t g n a cs=N t g n a:=rfl
theorem aHD(base len:Nat)(cs:List G)(i back jx:Nat)(d:Option Nat)(x:X)(r:List dg):cr A Γ base len (⟨i,⟨d,x,none⟩,true,back,jx⟩::r) N t g n a cs=
 cg A Γ x (fun v g' n' a'=>kB base len g'/\cr A Γ base len r N (dp t d v) g' n' a' (g'::cs)) t g n a:=rfl
theorem aHE(base len:Nat)(cs:List G)(i back jx:Nat)(d:Option Nat)(x:X)(j:Nat)(b:Bool)(r:List dg):cr A Γ base len (⟨i,⟨d,x,some (j,b)⟩,true,back,jx⟩::r) N t g n a cs=
 match aW t (.t j)with
 | .bool c=>if c=b then cg A Γ x (fun v g' n' a'=>kB base len g'/\cr A Γ base len r N (dp t d v) g' n' a' (g'::cs)) t g n a else cr A Γ base len r N (dp t d .undef) g n a (g::cs)
 | .any=>False
 |_=>cr A Γ base len r N (dp t d .undef) g n a (g::cs):=rfl
theorem aHF(base len:Nat)(cs:List G)(i back jx:Nat)(d:Option Nat)(x:X)(r:List dg):cr A Γ base len (⟨i,⟨d,x,none⟩,false,back,jx⟩::r) N t g n a cs=
 gk base len i back x (fun v g'=>cr A Γ base len r N (dp t d v) g' n a cs) t g cs:=rfl
theorem aHG(base len:Nat)(cs:List G)(i back jx:Nat)(d:Option Nat)(x:X)(j:Nat)(b:Bool)(r:List dg):cr A Γ base len (⟨i,⟨d,x,some (j,b)⟩,false,back,jx⟩::r) N t g n a cs=
 match aW t (.t j)with
 | .bool c=>if c=b then gk base len i back x (fun v g'=>cr A Γ base len r N (dp t d v) g' n a cs) t g cs else cr A Γ base len r N (dp t d .undef) g n a cs
 | .any=>False
 |_=>cr A Γ base len r N (dp t d .undef) g n a cs:=rfl
section
variable{base len i back:Nat}{pN:V->G->Prop}{cs:List G}
theorem aC'(x:s6):gk base len i back (.l x) pN t g cs=match gX (aW t) x with|some v=>pN v g|none=>False:=rfl
theorem aC9(x:pq):gk base len i back (.a x) pN t g cs=if i<len then(match q_ (aW t) x with|some p=>pN (p.2 (base+i)) (a1 g (base+i) p.1)|none=>False)else False:=rfl
theorem aC_(k:Nat)(agg:Bool)(p:aG):gk base len i back (.load k agg p) pN t g cs=match ni g k agg (aW t p)with
 |some v=>if back=0 then pN v g else V.same 40 v v=true/\uD k agg (aW t p) v back cs/\pN v g
 |none=>False:=rfl
end
theorem aIe(x:s6):cg A Γ (.l x) K t g n a=match gX (aW t) x with|some v=>K v g n a|none=>False:=rfl
theorem aH7(x:pq):cg A Γ (.a x) K t g n a=match q_ (aW t) x with|some p=>K (p.2 n) (a1 g n p.1) (n+1) a|none=>False:=rfl
theorem aIg(k:Nat)(agg:Bool)(p:aG):cg A Γ (.load k agg p) K t g n a=match ni g k agg (aW t p)with|some v=>K v g n a|none=>False:=rfl
theorem aIi(k:Nat)(p v:aG):cg A Γ (.store k p v) K t g n a=match aW t p with
 | .ptr b o=>if(aW t v).cells.length=k then(match om g b o (aW t v).cells with|some g'=>K .undef g' n a|none=>False)else False
 |_=>False:=rfl
theorem aH9(f:FuncId)(args:List aG):cg A Γ (.call f args) K t g n a=aR A Γ f (args.map (aW t)) g n a (fun v g' n' a'=>bm g' n'->K v g' n' a'):=rfl
theorem aH'(f:aG)(args:List aG):cg A Γ (.pr f args) K t g n a=match aW t f with
 | .fn (.func f) first cap=>aR A Γ f (first++args.map (aW t)++cap) g n a (fun v g' n' a'=>bm g' n'->K v g' n' a')
 |_=>False:=rfl
theorem aId(name:String)(recv:aG)(args:List aG):cg A Γ (.invoke name recv args) K t g n a=match aW t recv with
 | .iface fk v=>match tE Γ.m g fk v name with
   |some p=>aR A Γ p.1 (p.2::args.map (aW t)) g n a (fun v g' n' a'=>bm g' n'->K v g' n' a')
   |none=>False
 |_=>False:=rfl
theorem aIc(neg:Bool)(x y:aG):cg A Γ (.yN neg x y) K t g n a=match BQ g (aW t x) (aW t y)with|some r=>K (.bool (if neg then !r else r)) g n a|none=>False:=rfl
theorem aIh(zero:V)(ok:Bool)(mp k:aG):cg A Γ (.lookup zero ok mp k) K t g n a=match aW t mp with
 | .hC=>K (if ok then .bN [zero,.bool false]else zero) g n a
 | .map r=>match g r with
   |some (.mp _ es)=>match kF (aW t k) es with
    |some (some v)=>K (if ok then .bN [v,.bool true]else v) g n a
    |some none=>K (if ok then .bN [zero,.bool false]else zero) g n a
    |none=>False
   |_=>False
 |_=>False:=rfl
theorem aIj(mp k v:aG):cg A Γ (.update mp k v) K t g n a=match aW t mp with
 | .map r=>match g r with
   |some (.mp false es)=>match kF (aW t k) es with
    |some _=>K .undef (a1 g r (.mp false (nR (aW t k) (aW t v) es))) n a
    |none=>False
   |_=>False
 |_=>False:=rfl
theorem aIb(mp k:aG):cg A Γ (.delete mp k) K t g n a=match aW t mp with
 | .map r=>match g r with
   |some (.mp false es)=>match kF (aW t k) es with
    |some _=>K (.bN []) (a1 g r (.mp false (mE (aW t k) es))) n a
    |none=>False
   |_=>False
 |_=>False:=rfl
theorem aIf(mp:aG):cg A Γ (.wm mp) K t g n a=match aW t mp with
 | .hC=>K (.int .i64 0) g n a
 | .map r=>match g r with
   |some (.mp _ es)=>K (.int .i64 es.length) g n a
   |_=>False
 |_=>False:=rfl
theorem aH8(z bytes:Nat)(s x:aG):cg A Γ (.append z bytes s x) K t g n a=match fY g n z bytes (aW t s) (aW t x)with|some p=>K p.1 p.2.1 p.2.2 a|none=>False:=rfl
theorem aIa(z:Nat)(d s:aG):cg A Γ (.copy z d s) K t g n a=match FU g z (aW t d) (aW t s)with|some p=>K p.1 p.2 n a|none=>False:=rfl
theorem aH_(dt:List V)(x:aG):cg A Γ (.vt dt x) K t g n a=match aW t x with
 | .br=>K (.bN []) g n a
 | .slice b o len _ z=>if len=0 then K (.bN []) g n a else if z=dt.length then(match om g b o (im dt len)with|some g'=>K (.bN []) g' n a|none=>False)else False
 |_=>False:=rfl
theorem RN{base:Nat}:kB base 0 g=True:=by simp[kB]
theorem A7{base len:Nat}:kB base len (lF g base len)=True:=by
 simp only[kB,eq_iff_iff,iff_true]
 exact fun j ax=>⟨_,KY ax⟩
theorem kB.a1{base len:Nat}(h:kB base len g)(b:Nat)(c:bt):kB base len (a1 g b c):=fun j ax=>by
 rw[bJ]
 split
 .exact⟨_,rfl⟩
 .exact h j ax
theorem Gs{base len:Nat}(h:kB base len g)(b:Nat)(c:bt):kB base len (a1 g b c)=True:=by simp only[h.a1]
theorem kB.b6{base len:Nat}{g':G}(h:kB base len g)(aw:∀j,j<len->g' (base+j)=g (base+j)):kB base len g':=fun j ax=>by
 rw[aw j ax];exact h j ax
theorem KZ(g:G)(n:Nat):lF g n 0=g:=by
 funext i
 rw[wb,if_neg I]
theorem aHo{l:List dg}(h:uj l=0):b9 A Γ (.draw l) N E R t g n a=cr A Γ n 0 l N t g (n+l.length) a [g]:=by
 simp only[b9,h,KZ]
theorem kS{f:Fn}{x y:List V}(aj:x.length<30)(ai:y.length<30)(J:x.all V.plain=true)(U:y.all V.plain=true):V.same 40 (.fn f x y) (.fn f x y)=true:=by
 simp only[V.same,H0 x 39 I J,H0 y 39 I U]
 simp
theorem bm.a1{g:G}{n b:Nat}(h:bm g n)(ad:b<n)(c:bt):bm (a1 g b c) n:=fun x d aj=>by
 rw[bJ]at aj
 split at aj
 .omega
 .exact h x d aj
theorem bm.new{g:G}{n m:Nat}(h:bm g n)(hm:n<=m)(c:bt):bm (Go.Abs.a1 g m c) (m+1):=fun x d aj=>by
 rw[bJ]at aj
 split at aj
 .omega
 .have:=h x d aj;omega
theorem bm.mono{g:G}{n m:Nat}(h:bm g n)(hm:n<=m):bm g m:=fun x d aj=>by have:=h x d aj;omega
theorem bm.lF{g:G}{n:Nat}(h:bm g n)(k:Nat):bm (lF g n k) (n+k):=fun x d aj=>by
 rw[wb]at aj
 split at aj
 .omega
 .have:=h x d aj;omega
theorem dF{b n:Nat}(h:b<n)(k:Nat):(n+k=b)=False:=by simp;omega
theorem gS{b n:Nat}(h:b<n):(n=b)=False:=by simp;omega
theorem tG{b n:Nat}(h:b<n)(k:Nat):(b=n+k)=False:=by simp;omega
theorem x1{b n:Nat}(h:b<n):(b=n)=False:=by simp;omega
end
end Go.Abs
namespace Go.Abs
def h6(g:G)(z:Nat)(dr:V)(n:Nat)(vs:List V)(fl:List Nat):Prop:=
 (dr= .br/\n=0/\vs=[]/\fl=[])\/∃lb o cap cells,dr= .slice lb o n cap z/\g lb=some (.al false cells)/\n<=cap/\o+cap*z<=cells.length/\vs=(cells.drop o).take (n*z)/\fl=[lb]
namespace h6
variable{g g':G}{z n:Nat}{dr:V}{vs:List V}{fl:List Nat}
theorem plain(h:h6 g z dr n vs fl):dr.plain=true/\dr.cell=true/\dr.known=true/\V.same 40 dr dr=true/\dr.cells=[dr]:=by
 rcases h with⟨rfl,_⟩|⟨lb,o,cap,cells,rfl,_⟩
 .exact⟨rfl,rfl,rfl,nP rfl,rfl⟩
 .exact⟨rfl,rfl,rfl,nP rfl,rfl⟩
theorem oI(h:h6 g z dr n vs fl):oI dr=some (.int .i64 (n:Int)):=by
 rcases h with⟨rfl,rfl,_⟩|⟨lb,o,cap,cells,rfl,_⟩<;>rfl
theorem length(h:h6 g z dr n vs fl):vs.length=n*z:=by
 rcases h with⟨rfl,rfl,rfl,_⟩|⟨lb,o,cap,cells,rfl,_,J,U,rfl,_⟩
 .simp
 .have:n*z<=cap*z:=Nat.mul_le_mul_right z J
  simp;omega
theorem b6(h:h6 g z dr n vs fl)(aw:∀b∈fl,g' b=g b):h6 g' z dr n vs fl:=by
 rcases h with h|⟨lb,o,cap,cells,J,U,aq,aK,bx,rfl⟩
 .exact .inl h
 .exact .inr ⟨lb,o,cap,cells,J,by rw[aw lb aM,U],aq,aK,bx,rfl⟩
theorem lt(h:h6 g z dr n vs fl){m:Nat}(aV:bm g m):∀b∈fl,b<m:=by
 rcases h with⟨_,_,_,rfl⟩|⟨lb,o,cap,cells,J,U,aq,aK,bx,rfl⟩
 .simp
 .intro b ad
  simp only[List.mem_singleton]at ad
  subst ad;exact aV _ _ U
theorem nodup(h:h6 g z dr n vs fl):fl.Nodup:=by
 rcases h with⟨_,_,_,rfl⟩|⟨lb,o,cap,cells,J,U,aq,aK,bx,rfl⟩<;>simp
theorem nil:h6 g z .br 0 [] []:=.inl ⟨rfl,rfl,rfl,rfl⟩
theorem whole{b:Nat}(h:g b=some (.al false vs))(bB:vs.length=n*z):h6 g z (.slice b 0 n n z) n vs [b]:=
 .inr ⟨b,0,n,vs,rfl,h,Nat.le_refl _,I,by rw[List.drop_zero,List.take_of_length_le I],rfl⟩
theorem src(h:h6 g z dr n vs fl):yd g z dr=some (n,vs):=by
 rcases h with⟨rfl,rfl,rfl,rfl⟩|⟨lb,o,cap,cells,rfl,au,aq,aK,rfl,rfl⟩
 .rfl
 .have:n*z<=cap*z:=Nat.mul_le_mul_right z aq
  simp only[yd,if_true,au]
  rw[if_pos I]
theorem append(h:h6 g z dr n vs fl){m:Nat}(ap:bm g m){x:V}{k:Nat}{new:List V}{bytes:Nat}(aj:yd g z x=some (k,new))(bB:new.length=k*z)(af:new.all V.cell=true)(az:n+k<1000000)(vL:bytes<=1024):
 ∃nU g' hW fl',fY g m z bytes dr x=some (nU,g',hW)/\m<=hW/\h6 g' z nU (n+k) (vs++new) fl'/\(∀b,b<m->b∉fl->g' b=g b)/\(∀b∈fl',b∈fl\/m<=b)/\bm g' hW:=by
 by_cases ah:k=0
 .subst ah
  have nH:new=[]:=List.eq_nil_of_length_eq_zero I
  subst nH
  refine⟨dr,g,m,fl,?_,Nat.le_refl _,by simpa using h,fun _ _ _=>rfl,fun b ad=>.inl ad,ap⟩
  rcases h with⟨rfl,rfl,rfl,rfl⟩|⟨lb,o,cap,cells,rfl,au,aq,aK,rfl,rfl⟩<;>simp[fY,aj]
 .rcases h with⟨rfl,rfl,rfl,rfl⟩|⟨lb,o,cap,cells,rfl,au,aq,aK,rfl,rfl⟩
  .refine⟨.slice m 0 k k z,a1 g m (.al false new),m+1,[m],?_,Nat.le_succ _,?_,fun b ad _=>?_,fun b ad=>.inr (by simp at ad;omega),ap.new (Nat.le_refl _) _⟩
   .simp only[fY,aj]
    rw[if_neg ah,if_pos ⟨I,vL⟩]
   .simp only[Nat.zero_add,List.nil_append]
    exact whole (by rw[bJ,if_pos rfl]) bB
   .rw[bJ,if_neg I]
  .have dm:=ap _ _ au
   have azq:n*z<=cap*z:=Nat.mul_le_mul_right z aq
   have hs:((cells.drop o).take (n*z)).length=n*z:=by simp;omega
   by_cases mL:n+k<=cap
   .have Kp:(n+k)*z<=cap*z:=Nat.mul_le_mul_right z mL
    rw[Nat.add_mul]at Kp
    refine⟨.slice lb o (n+k) cap z,a1 g lb (.al false (nQ cells (o+n*z) new)),m,[lb],?_,Nat.le_refl _,?_,fun b ad aV=>?_,fun b ad=>.inl ad,ap.a1 dm _⟩
    .simp only[fY,aj,ne_eq,not_true_eq_false,if_false,if_neg ah,if_pos mL,om,au]
     rw[if_pos ⟨I,af⟩];rfl
    .rw[EV _ _ _ I]
     refine .inr ⟨lb,o,cap,_,rfl,by rw[bJ,if_pos rfl],mL,?_,?_,rfl⟩
     .simp;omega
     .rw[Nat.add_mul,List.append_assoc,List.drop_append_of_le_length (by simp;omega),List.drop_take]
      have aJ:o+n*z-o=n*z:=I
      rw[aJ,<-List.append_assoc,List.take_left' (by rw[List.length_append,hs,bB])]
    .rw[bJ,if_neg (fun e=>aV (by simp[e]))]
   .refine⟨.slice m 0 (n+k) (n+k) z,a1 (a1 g lb .hole) m (.al false ((cells.drop o).take (n*z)++new)),m+1,[m],?_,Nat.le_succ _,?_,fun b ad aV=>?_,fun b ad=>.inr (by simp at ad;omega),(ap.a1 dm _).new (Nat.le_refl _) _⟩
    .simp only[fY,aj,ne_eq,not_true_eq_false,if_false,if_neg ah,if_neg mL,au]
     rw[if_pos ⟨I,vL,af⟩,if_pos I]
    .refine whole (by rw[bJ,if_pos rfl]) ?_
     rw[List.length_append,hs,bB,Nat.add_mul]
    .rw[bJ,if_neg I,bJ,if_neg (fun e=>aV (by simp[e]))]
theorem ld(h:h6 g z dr n vs fl)(az:0<n):∃lb o cap cells,dr= .slice lb o n cap z/\g lb=some (.al false cells)/\n<=cap/\o+cap*z<=cells.length/\vs=(cells.drop o).take (n*z)/\fl=[lb]:=by
 rcases h with⟨rfl,rfl,_⟩|h
 .omega
 .exact h
end h6
theorem aFY(dt:List V):im dt 1=dt:=by simp[im]
theorem aFZ(dt:List V):im dt 2=dt++dt:=by simp[im]
theorem aF0(dt:List V):im dt 3=dt++(dt++dt):=by simp[im]
theorem I9{cells:List V}{o n z i:Nat}{v:V}(h:((cells.drop o).take (n*z))[i]? =some v):cells[o+i]? =some v:=by
 rw[List.getElem?_take]at h
 split at h
 .rwa [List.getElem?_drop]at h
 .simp at h
