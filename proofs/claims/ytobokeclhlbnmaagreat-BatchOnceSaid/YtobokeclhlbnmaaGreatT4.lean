/- Part of the proof of BatchOnce, for every input. -/
import Derived.Test.YtobokeclhlbnmaaGreatT1
import Derived.Test.YtobokeclhlbnmaaGreatT2
import Derived.Test.YtobokeclhlbnmaaGreatT3
import Derived.Test.YtobokeclhlbnmaaGreatA8
set_option linter.all false
namespace Go.Proofs.Run
open Go Go.Abs
set_option maxRecDepth 100000
def aQ:List Nat:=[]
namespace X
abbrev E:T bn:=.e
abbrev N(l:T bn)(i:bn)(r:T bn):T bn:=.n l (some i) r
abbrev M(l r:T bn):T bn:=.n l none r
abbrev L(i:bn):T bn:=.n .e (some i) .e
end X
open X in
def jn:T bn:=(M (M (N (N (N (N (M (N (L i255) i127 E) E) i31 (M (N (L i287) i159 E) (L i223))) i15 (N (M E (M (L i335) E)) i47 (N (N (L i303) i175 E) i111 E))) i7 (M (M (M (M E (L i391)) (M (L i327) E)) (N (N (L i295) i167 E) i103 (L i231))) (N (N E i87 (L i215)) i55 (M (L i183) (L i247))))) i3 (N (N (N (M E (M (L i323) E)) i35 (N (N (L i291) i163 E) i99 E)) i19 (M (M E (L i211)) (M (L i179) (L i243)))) i11 (N (N (M E (M (L i331) E)) i43 (N (N (L i299) i171 E) i107 (L i235))) i27 (N (N (N (L i283) i155 E) i91 (M (L i347) E)) i59 (M (L i187) (L i251)))))) (N (N (N (M E (N (N (L i289) i161 E) i97 (L i225))) i17 (N (M (L i145) (M (L i337) E)) i49 (N (L i177) i113 (L i241)))) i9 (N (M (M (M (L i265) E) (M (L i329) E)) (N (N (L i297) i169 E) i105 (L i233))) i25 (N (N (N (L i281) i153 E) i89 (L i217)) i57 (M (L i185) E)))) i5 (N (M (M (M E (M (L i325) E)) (N (L i165) i101 E)) (N (M (L i149) E) i53 (M (L i181) (L i245)))) i13 (N (N (M E (M (L i333) E)) i45 (M (N (L i301) i173 E) (L i237))) i29 (M (N (N (L i285) i157 E) i93 (N (L i349) i221 E)) (N E i125 (L i253))))))) (M (M (N (N (N (M (L i128) E) i32 (M (N (L i288) i160 E) (N (L i352) i224 E))) i16 (N (M E (M (L i336) E)) i48 (N (N (L i304) i176 E) i112 (L i240)))) i8 (M (M (M (M (L i264) (L i392)) (M (L i328) E)) (M (M (L i296) E) (L i232))) (M (N (M (L i280) E) i88 (L i216)) (M (L i184) E)))) (N (N (N (M E (M (L i324) E)) i36 (N (N (L i292) i164 E) i100 E)) i20 (N (M E (L i212)) i52 (M E (L i244)))) i12 (N (N (N (M (L i268) E) i76 (M (L i332) E)) i44 (N (N (L i300) i172 E) i108 (L i236))) i28 (M (N E i92 (L i220)) (M E (L i252)))))) (N (N (N (N E i34 (N (N (L i290) i162 E) i98 (L i226))) i18 (N (M E (M (L i338) E)) i50 (N (L i178) i114 (L i242)))) i10 (N (M (M E (M (L i330) E)) (N (L i170) i106 (L i234))) i26 (N (M (M (L i282) E) (N (L i346) i218 E)) i58 (M (L i186) E)))) i6 (N (M (M (M E (M (L i326) E)) (N (M (L i294) E) i102 (L i230))) (N (N E i86 (L i214)) i54 (M (L i182) (L i246)))) i14 (N (N (M E (M (L i334) E)) i46 (M (N (L i302) i174 E) E)) i30 (M (N (N (L i286) i158 E) i94 (N (L i350) i222 E)) (N E i126 (L i254))))))))
def CO:List (Nat×bn):=[3,5,6,7,8,9,10,11,12,13,14,15,16,17,18,19,20,25,26,27,28,29,30,31,32,34,35,36,43,44,45,46,47,48,49,50,52,53,54,55,57,58,59,76,86,87,88,89,91,92,93,94,97,98,99,100,101,102,103,105,106,107,108,111,112,113,114,125,126,127,128,145,149,153,155,157,158,159,160,161,162,163,164,165,167,169,170,171,172,173,174,175,176,177,178,179,181,182,183,184,185,186,187,211,212,214,215,216,217,218,220,221,222,223,224,225,226,230,231,232,233,234,235,236,237,240,241,242,243,244,245,246,247,251,252,253,254,255,264,265,268,280,281,282,283,285,286,287,288,289,290,291,292,294,295,296,297,299,300,301,302,303,304,323,324,325,326,327,328,329,330,331,332,333,334,335,336,337,338,346,347,349,350,352,391,392].filterMap fun k=>(jn.get k).map (k, ·)
def H5(f:Nat->Option bn):List (Nat×bn)->List (Option bn)
 |[]=>[]
 |p::r=>f p.1::H5 f r
def yM:List (Nat×bn)->List (Option bn)
 |[]=>[]
 |p::r=>some p.2.plain::yM r
theorem asf{f:Nat->Option bn}:∀l,H5 f l=yM l->∀p∈l,f p.1=some p.2.plain
 |[],_=>by simp
 |q::r,h=>by
  simp only[H5,yM,List.cons.injEq]at h
  intro p aB
  rcases List.mem_cons.1 aB with rfl|aB
  .exact h.1
  .exact asf r h.2 p aB
theorem aHU:H5 (fun k=>(Tryz.prog.funcs[k]?).bind (AH Tryz.prog aQ)) CO=yM CO:=by kernel_rfl
theorem QW:∀p∈CO,∃fn,Tryz.prog.funcs[p.1]? =some fn/\AH Tryz.prog aQ fn=some p.2.plain:=fun p aB=>Option.bind_eq_some_iff.1 (asf CO aHU p aB)
def oi:List ((TypeId×String)×Cg):=[((241, "Step"),.fn 212),((207, "Step"),.fn 107),((207, "Result"),.fn 392),((191, "Step"),.fn 93),((191, "Result"),.fn 391),((95, "Step"),.fn 185),((44, "Step"),.vz),((44, "Result"),.vz),((43, "Step"),.fn 14)]
theorem To:∀p∈oi,Fi Tryz.prog p.1.1 p.1.2 p.2:=
 all_cons (fun v w=>⟨by kernel_rfl,by kernel_rfl⟩)<|
 all_cons (fun v w=>⟨by kernel_rfl,by kernel_rfl⟩)<|
 all_cons (fun v w=>⟨by kernel_rfl,by kernel_rfl⟩)<|
 all_cons (fun v w=>⟨by kernel_rfl,by kernel_rfl⟩)<|
 all_cons (fun v w=>⟨by kernel_rfl,by kernel_rfl⟩)<|
 all_cons (fun v w=>⟨by kernel_rfl,by kernel_rfl⟩)<|
 all_cons (Qz (ft:=0) (by kernel_rfl) (by kernel_rfl) (fun a w=>by kernel_rfl))<|
 all_cons (Qz (ft:=0) (by kernel_rfl) (by kernel_rfl) (fun a w=>by kernel_rfl))<|
 all_cons (fun v w=>⟨by kernel_rfl,by kernel_rfl⟩)<|
 all_nil
theorem ast:NA CO=jn:=by kernel_rfl
end Go.Proofs.Run
namespace Go.Proofs.Run
open Go Go.Abs
set_option maxRecDepth 100000
def zx:List V->Option (List Int)
 |[]=>some []
 | .int .u64 n::r=>(zx r).map (n:: ·)
 |_=>none
def CB:List V->H->Option ll
 |[.map r],σ=>match σ.get r with
  |some (.map false es)=>some (.ret (.map σ.next) (σ.new (.map false es)))
  |_=>none
 |_,_=>none
def E0:List V->H->Option ll
 |[.br,.fn (.func 181) [] []],σ=>some (.ret (.bN []) σ)
 |[.slice b o len _ 1,.fn (.func 181) [] []],σ=>if len<100000 then match σ.l2 b o len with
  |some l=>match zx l with
   |some ks=>(σ.pe b o ((ks.mergeSort (· <= ·)).map (V.int .u64))).map fun σ'=>.ret (.bN []) σ'
   |none=>none
  |none=>none
  else none
 |_,_=>none
def Lx:List V->H->Option ll
 |[],σ=>some (.ret (.bool true) σ)
 |_,_=>none
def yc:Go.Abs.Call:=fun f args σ=>if f=330 then CB args σ else if f=180 then E0 args σ else if f=6 then Lx args σ else none
abbrev bA:ph:=⟨nj oi,yc,jn.get⟩
theorem bE{α:Type}{A:h3 α}{g:G}{n:Nat}{a:α}{f:FuncId}{args:List V}{K:cj α}(fP:bn)
 (h:∀N:fp α,(∀t g' n' a',(match qo t g' fP.j8 with|some l=>n<=n'->Fin K (q7 l) g' n' a'|none=>False)->N t g' n' a')->b9 A bA fP.body N (fun _ _ _ _ _=>False) N (T.ofList .e 0 args) g n a) (aV:jn.get f=some fP:=by kernel_rfl) (ak:fP.wH=none:=by rfl) (aa:(f==330 || f==180 || f==6)=false:=by rfl):aR A bA f args g n a K:=by
 refine ayo (Γ:=bA) aV ak (fun σ=>?_) h
 simp only[Bool.or_eq_false_iff,beq_eq_false_iff_ne]at aa
 simp only[yc,if_neg aa.1.1,if_neg aa.1.2,if_neg aa.2]
end Go.Proofs.Run
namespace Go.Proofs.Run
open Go Go.Abs
attribute [local irreducible] b9 cI cr cg aR
section
section
variable{α:Type}{A:h3 α}{Γ:ph}{N:fp α}{E:Nat->fp α}{R:fp α}{t:T V}{g:G}{n:Nat}{a:α}
def It(A:h3 α)(Γ:ph)(y:C)(N:fp α)(E:Nat->fp α)(R:fp α):fp α:=fun t g n a=>b9 A Γ y N E R t g n a
def Is(i:Nat)(N:fp α)(E:Nat->fp α):Nat->fp α:=fun j t g n a=>if j=i then N t g n a else E j t g n a
theorem aHt(x y:C):b9 A Γ (.seq x y) N E R t g n a=b9 A Γ x (It A Γ y N E R) E R t g n a:=by unfold It;exact aHs x y
theorem aCn(y:C):It A Γ y N E R t g n a=b9 A Γ y N E R t g n a:=rfl
theorem aHm(i:Nat)(c:C):b9 A Γ (.block i c) N E R t g n a=b9 A Γ c N (Is i N E) R t g n a:=by unfold Is;exact aHl i c
theorem aBR(i j:Nat):Is i N E j t g n a=if j=i then N t g n a else E j t g n a:=rfl
theorem aHq(l:List Go.Abs.Op):b9 A Γ (.ao l) N E R t g n a=cI A Γ l N t g n a:=by unfold b9;rfl
end
theorem ab{c d:C}(e:c=d)(α:Type)(A:h3 α)(Γ:ph)(N:fp α)(E:Nat->fp α)(R:fp α)(t:T V)(g:G)(n:Nat)(a:α):b9 A Γ c N E R t g n a=b9 A Γ d N E R t g n a:=by rw[e]
theorem eh{c:C}{l:List dg}(e:c= .draw l)(k:Nat)(ah:l.length=k)(h:uj l=0)(α:Type)(A:h3 α)(Γ:ph)(N:fp α)(E:Nat->fp α)(R:fp α)(t:T V)(g:G)(n:Nat)(a:α):b9 A Γ c N E R t g n a=cr A Γ n 0 l N t g (n+k) a [g]:=by subst e;subst ah;exact aHo h
theorem ol{c:C}{l:List dg}(e:c= .draw l)(k:Nat)(ah:l.length=k)(h:uj l=k)(α:Type)(A:h3 α)(Γ:ph)(N:fp α)(E:Nat->fp α)(R:fp α)(t:T V)(g:G)(n:Nat)(a:α):b9 A Γ c N E R t g n a=cr A Γ n k l N t (lF g n k) (n+k) a [lF g n k]:=by subst e;subst ah;unfold b9;rw[h]
theorem oH{p q:Prop}(x:p)(y:q):p/\q:=⟨x,y⟩
section
variable{a b c d e f g h i j k l:Prop}
def aN(cP:a)(eB:b):=oH cP eB
def cw(cP:a)(eB:b)(iT:c):=oH cP (aN eB iT)
def cc(cP:a)(eB:b)(iT:c)(mv:d):=oH cP (cw eB iT mv)
def eW(cP:a)(eB:b)(iT:c)(mv:d)(nw:e):=oH cP (cc eB iT mv nw)
def d'(cP:a)(eB:b)(iT:c)(mv:d)(nw:e)(r6:f):=oH cP (eW eB iT mv nw r6)
def gq(cP:a)(eB:b)(iT:c)(mv:d)(nw:e)(r6:f)(tV:g):=oH cP (d' eB iT mv nw r6 tV)
def e_(cP:a)(eB:b)(iT:c)(mv:d)(nw:e)(r6:f)(tV:g)(wS:h):=oH cP (gq eB iT mv nw r6 tV wS)
def jO(cP:a)(eB:b)(iT:c)(mv:d)(nw:e)(r6:f)(tV:g)(wS:h)(Af:i):=oH cP (e_ eB iT mv nw r6 tV wS Af)
def ji(cP:a)(eB:b)(iT:c)(mv:d)(nw:e)(r6:f)(tV:g)(wS:h)(Af:i)(E9:j):=oH cP (jO eB iT mv nw r6 tV wS Af E9)
def kw(cP:a)(eB:b)(iT:c)(mv:d)(nw:e)(r6:f)(tV:g)(wS:h)(Af:i)(E9:j)(NQ:k):=oH cP (ji eB iT mv nw r6 tV wS Af E9 NQ)
def bs(cP:a)(eB:b)(iT:c)(mv:d)(nw:e)(r6:f)(tV:g)(wS:h)(Af:i)(E9:j)(NQ:k)(aJu:l):=oH cP (kw eB iT mv nw r6 tV wS Af E9 NQ aJu)
end
theorem aMY{g:G}{base len b0:Nat}{dd:bt}:kB base len (a1 (lF g base len) b0 dd)=True:=Gs (of_eq_true A7) _ _
theorem aM1{g:G}{base len b0 b1:Nat}{dd c1:bt}:kB base len (a1 (a1 (lF g base len) b0 dd) b1 c1)=True:=Gs (of_eq_true aMY) _ _
theorem aM2{g:G}{base len b0 b1 b2:Nat}{dd c1 c2:bt}:kB base len (a1 (a1 (a1 (lF g base len) b0 dd) b1 c1) b2 c2)=True:=Gs (of_eq_true aM1) _ _
theorem aM3{g:G}{base len b0 b1 b2 b3:Nat}{dd c1 c2 eu:bt}:kB base len (a1 (a1 (a1 (a1 (lF g base len) b0 dd) b1 c1) b2 c2) b3 eu)=True:=Gs (of_eq_true aM2) _ _
theorem aM4{g:G}{base len b0 b1 b2 b3 ox:Nat}{dd c1 c2 eu jH:bt}:kB base len (a1 (a1 (a1 (a1 (a1 (lF g base len) b0 dd) b1 c1) b2 c2) b3 eu) ox jH)=True:=Gs (of_eq_true aM3) _ _
theorem aM5{g:G}{base len b0 b1 b2 b3 ox h7:Nat}{dd c1 c2 eu jH m1:bt}:kB base len (a1 (a1 (a1 (a1 (a1 (a1 (lF g base len) b0 dd) b1 c1) b2 c2) b3 eu) ox jH) h7 m1)=True:=Gs (of_eq_true aM4) _ _
theorem aM6{g:G}{base len b0 b1 b2 b3 ox h7 aMP:Nat}{dd c1 c2 eu jH m1 Je:bt}:kB base len (a1 (a1 (a1 (a1 (a1 (a1 (a1 (lF g base len) b0 dd) b1 c1) b2 c2) b3 eu) ox jH) h7 m1) aMP Je)=True:=Gs (of_eq_true aM5) _ _
theorem aM7{g:G}{base len b0 b1 b2 b3 ox h7 aMP aMQ:Nat}{dd c1 c2 eu jH m1 Je Jf:bt}:kB base len (a1 (a1 (a1 (a1 (a1 (a1 (a1 (a1 (lF g base len) b0 dd) b1 c1) b2 c2) b3 eu) ox jH) h7 m1) aMP Je) aMQ Jf)=True:=Gs (of_eq_true aM6) _ _
theorem aM8{g:G}{base len b0 b1 b2 b3 ox h7 aMP aMQ aMR:Nat}{dd c1 c2 eu jH m1 Je Jf aMS:bt}:kB base len (a1 (a1 (a1 (a1 (a1 (a1 (a1 (a1 (a1 (lF g base len) b0 dd) b1 c1) b2 c2) b3 eu) ox jH) h7 m1) aMP Je) aMQ Jf) aMR aMS)=True:=Gs (of_eq_true aM7) _ _
theorem aMZ{g:G}{base len b0 b1 b2 b3 ox h7 aMP aMQ aMR aMU:Nat}{dd c1 c2 eu jH m1 Je Jf aMS aMV:bt}:kB base len (a1 (a1 (a1 (a1 (a1 (a1 (a1 (a1 (a1 (a1 (lF g base len) b0 dd) b1 c1) b2 c2) b3 eu) ox jH) h7 m1) aMP Je) aMQ Jf) aMR aMS) aMU aMV)=True:=Gs (of_eq_true aM8) _ _
theorem aM0{g:G}{base len b0 b1 b2 b3 ox h7 aMP aMQ aMR aMU aMW:Nat}{dd c1 c2 eu jH m1 Je Jf aMS aMV aMX:bt}:kB base len (a1 (a1 (a1 (a1 (a1 (a1 (a1 (a1 (a1 (a1 (a1 (lF g base len) b0 dd) b1 c1) b2 c2) b3 eu) ox jH) h7 m1) aMP Je) aMQ Jf) aMR aMS) aMU aMV) aMW aMX)=True:=Gs (of_eq_true aMZ) _ _
theorem aM_{g:G}{base len b0 b1 b2 b3 ox h7 aMP aMQ aMR aMU aMW aM9:Nat}{dd c1 c2 eu jH m1 Je Jf aMS aMV aMX aM':bt}:kB base len (a1 (a1 (a1 (a1 (a1 (a1 (a1 (a1 (a1 (a1 (a1 (a1 (lF g base len) b0 dd) b1 c1) b2 c2) b3 eu) ox jH) h7 m1) aMP Je) aMQ Jf) aMR aMS) aMU aMV) aMW aMX) aM9 aM')=True:=Gs (of_eq_true aM0) _ _
def aMT:=bs @List.getElem?_cons_zero.{0} @List.getElem?_cons_succ.{0} @Option.getD_some.{0} @List.all_cons.{0} @List.all_nil.{0} @List.length_cons.{0} @List.length_nil.{0} @ge_iff_le.{0} @gt_iff_lt.{0} @if_true.{1} @if_false.{1} (kw @beq_iff_eq.{0} @beq_eq_false_iff_ne.{0} @bne_iff_ne.{0} @ne_eq.{1} @eq_self.{1} @beq_self_eq_true.{0} @bne_self_eq_false.{0} @List.append_nil.{0} @List.nil_append.{0} @List.cons_append.{0} @List.singleton_append.{0})
def h4:=cc @List.forall_mem_cons.{0} @List.not_mem_nil.{0} @false_implies @implies_true.{1}
def oV:=cw @List.cons_append.{0} @List.nil_append.{0} @List.append_nil.{0}
def Fl:=bs @aCn @aBR @aHq @aHu @aHt @aHn @aHm @aHp @aHr @aHO @aHP (bs @aHQ @aHH @aHD @aHE @aHF @aHG @aC' @aC9 @aC_ @aIe @aH7 (bs @aIg @aIi @aIh @aIf @aH8 @aIa @aH_ @aIc @aIj @aIb @aH9 (gq @aH' @aId @aHW @axu @axv @axw @axx)))
def qD:=bs @aMY @aM1 @aM2 @aM3 @aM4 @aM5 @aM6 @aM7 @aM8 @aMZ @aM0 (bs @aM_ @kS @lK @SR @aHa @aHg @aHk @aHj @oN @oO @aHh (bs @aHi @aHc @aHf @aHe @awf @awu @aEB @axE @awk @awz @aEE (bs @axH @awo @awF @aEI @axL @awn @awE @aEH @axK @awp @awG (bs @aEJ @axM @awq @awH @aEK @axN @awl @awC @aEF @axI @awm (bs @awD @aEG @axJ @awg @awv @awh @aww @aEC @axF @awi @awx (bs @awj @awy @aED @axG @aBW @aB1 @aB6 @aB4 @aB8 @aB9 @aB2 (bs @aB3 @aBX @aBY @aBZ @aB0 @aCa @aBV @aB_ @aB' @awt @flat_agg (bs @Bool.and_self @Bool.true_and @Bool.and_true @bJ @aFY @aFZ @aF0 @KZ @RN @A7 @Gs (bs @and_self @and_true @true_and @Nat.sub_zero @Nat.zero_add @Nat.add_zero @Nat.zero_le @Bool.false_eq_true @Nat.add_assoc @aDH @aDI (bs @au3 @not_true_eq_false @not_false_eq_true @or_self @or_true @true_or @or_false @false_or @and_false @false_and @decide_true (kw @decide_false @Bool.not_eq_true @Bool.not_eq_false @Bool.not_eq_true' @decide_eq_true_eq @decide_eq_false_iff_not @Bool.not_true @Bool.not_false @Int.cast_ofNat_Int @Nat.mul_one @Nat.zero_mul)))))))))))
section
variable{p q w a:Prop}
theorem aL(y:w)(x:a)(h:q)(e:w->a->p=q:=by intro W X;(try simp only[↓W,qo,q7,↓Fl,qD,aMT,↓reduceIte,↓reduceDIte,Nat.reduceEqDiff,Nat.reduceAdd,Nat.reduceLeDiff,Nat.reduceLT,Nat.reduceSub,reduceCtorEq,Int.reduceToNat,Int.reduceBEq,Int.reduceBNe,Int.reduceLT,Int.reduceLE,Int.reduceEq,Int.reduceNe,Nat.reduceBEq,Nat.reduceMul,q_,gX,uD,ni,om,yC,z_,sl,x7,pY,nQ,List.drop,List.take,List.set,List.map,Option.map,X])<;>rfl):p:=(e y x).mpr h
theorem a6(x:a)(h:q)(e:a->p=q:=by intro X;(try simp only[qo,q7,↓Fl,qD,aMT,↓reduceIte,↓reduceDIte,Nat.reduceEqDiff,Nat.reduceAdd,Nat.reduceLeDiff,Nat.reduceLT,Nat.reduceSub,reduceCtorEq,Int.reduceToNat,Int.reduceBEq,Int.reduceBNe,Int.reduceLT,Int.reduceLE,Int.reduceEq,Int.reduceNe,Nat.reduceBEq,Nat.reduceMul,q_,gX,uD,ni,om,yC,z_,sl,x7,pY,nQ,List.drop,List.take,List.set,List.map,Option.map,X])<;>rfl):p:=(e x).mpr h
theorem dl(y:w)(h:q)(e:w->q->p:=by intro W H;exact aL W qD H):p:=e y h
theorem aKf(h:q)(e:q->p:=by intro H;exact a6 qD H):p:=e h
theorem aMG(y:w)(x:a)(e:w->a->p:=by intro W X;exact aL W X trivial):p:=e y x
theorem aME(y:w)(e:w->p:=by intro W;exact aL W qD trivial):p:=e y
theorem bD(x:a)(e:a->p:=by intro X;exact a6 X trivial):p:=e x
theorem dW(e:p:=by exact a6 qD trivial):p:=e
theorem bc(x:a)(e:a->p:=by intro X;refine a6 X ?_<;>(try simp(disch:=omega) only[if_neg,xM,bJ,if_true])<;>(refine a6 X ?_)<;>trivial):p:=e x
theorem dX(e:p:=by exact bc qD):p:=e
theorem fG(y:w)(x:a)(h:q)(e:w->a->p=q:=by intro W X;(try simp only[↓W,qo,q7,↓Fl,qD,aMT,↓reduceIte,↓reduceDIte,Nat.reduceEqDiff,Nat.reduceAdd,Nat.reduceLeDiff,Nat.reduceLT,Nat.reduceSub,reduceCtorEq,Int.reduceToNat,Int.reduceBEq,Int.reduceBNe,Int.reduceLT,Int.reduceLE,Int.reduceEq,Int.reduceNe,Nat.reduceBEq,Nat.reduceMul,q_,gX,uD,ni,om,yC,z_,sl,x7,pY,nQ,List.drop,List.take,List.set,List.map,Option.map,X,yd,BQ,EX,q9])<;>rfl):p:=(e y x).mpr h
theorem CF(x:a)(h:q)(e:a->p=q:=by intro X;(try simp only[qo,q7,↓Fl,qD,aMT,↓reduceIte,↓reduceDIte,Nat.reduceEqDiff,Nat.reduceAdd,Nat.reduceLeDiff,Nat.reduceLT,Nat.reduceSub,reduceCtorEq,Int.reduceToNat,Int.reduceBEq,Int.reduceBNe,Int.reduceLT,Int.reduceLE,Int.reduceEq,Int.reduceNe,Nat.reduceBEq,Nat.reduceMul,q_,gX,uD,ni,om,yC,z_,sl,x7,pY,nQ,List.drop,List.take,List.set,List.map,Option.map,X,yd,BQ,EX,q9])<;>rfl):p:=(e x).mpr h
theorem JC(y:w)(h:q)(e:w->q->p:=by intro W H;exact fG W qD H):p:=e y h
theorem aKg(h:q)(e:q->p:=by intro H;exact CF qD H):p:=e h
theorem aMH(y:w)(x:a)(e:w->a->p:=by intro W X;exact fG W X trivial):p:=e y x
theorem aMF(y:w)(e:w->p:=by intro W;exact fG W qD trivial):p:=e y
theorem aMC(x:a)(e:a->p:=by intro X;exact CF X trivial):p:=e x
theorem as8(e:p:=by exact CF qD trivial):p:=e
theorem aJE(x:a)(e:a->p:=by intro X;refine CF X ?_<;>(try simp(disch:=omega) only[if_neg,xM,bJ,if_true])<;>(refine CF X ?_)<;>trivial):p:=e x
theorem aMD(e:p:=by exact aJE qD):p:=e
theorem eP(x:a)(e:a->p:=by intro X;exact bc (eW X Fj F D T)):p:=e x
theorem NS(e:p:=by exact bc (cc Fj F D T)):p:=e
theorem yn(x:a)(e:a->p:=by intro X;exact bc (oH X Fj)):p:=e x
theorem B'(e:p:=by exact bc Fj):p:=e
theorem nY(e:p:=by intro b ad bI;have c4:=zN bI;simp only[h4,and_true,List.map,r2,oV]at c4;exact bc (cw c4 (dF ad) (gS ad))):p:=e
theorem wU(y:Nat)(e:∀X,y=X->p:=by intro X e b ad bI;have tf:b<X:=(by omega);subst e;have c4:=zN bI;simp only[h4,and_true,List.map,r2,oV]at c4;exact bc (cc c4 (dF ad) (gS ad) (ag tf))):p:=e _ rfl
theorem Ik(y:a)(e:a->p:=by intro X b ad bI;have c4:=zN bI;simp only[h4,and_true,List.map,r2,oV]at c4;exact bc (cc c4 (dF ad) (gS ad) (X b ad (fun e=>bI (by rw[e];simp only[List.map,List.mem_cons,true_or,or_true,eq_self,r2]))))):p:=e y
theorem hc(e:p:=by refine a6 (cw N8 D T) ?_;first|trivial|omega):p:=e
theorem Ij(e:p:=by refine a6 N8 ?_;first|trivial|omega):p:=e
theorem ho(e:p:=by intro b ad;simp only[List.map,List.mem_cons,List.not_mem_nil,or_false,r2,oV]at ad |-;omega):p:=e
theorem hz(e:p:=by(constructor<;>first|rfl|exact aH|exact aZ.x|exact aZ.hX|exact aZ.g5|exact aZ.hY|exact aZ.h_|exact aZ.i_|exact aZ.val|exact aZ.bH|exact aZ.done|exact aZ.room|exact aZ.bk|exact aZ.bo|exact aZ.a7|exact aZ.made|exact aZ.key|exact aZ.fu)):p:=e
theorem ua(e:p:=by simp only[h4,D,T,and_self]):p:=e
theorem iU{f d t q:Prop}(h:f->d->t->q)(F:f:=by have F:=own.at_;(try simp only[h4,and_true,List.map,oX,gn,r2,wR,Aa,va,yh]at F);exact F)(D:d:=by have F:=own.aw2;(try simp only[h4,and_true,List.map,oX,gn,r2,wR,Aa,va,yh]at F);exact F)(T:t:=by have F:=own.Hd ap;(try simp only[h4,and_true,List.map,oX,gn,r2,wR,Aa,va,yh]at F);exact F):q:=h F D T
end
theorem eC{p q:Prop}{x y:Nat}(h:p/\q/\x≠y):p/\(x=y)=False/\(y=x)=False:=⟨h.1,eq_false h.2.2,eq_false h.2.2.symm⟩
theorem pM{b n:Nat}(h:b<n)(g:G)(k:Nat):lF g n k b=g b:=xM h
def ag{b n:Nat}(h:b<n):=oH (dF h)<|oH (gS h)<|oH (tG h)<|oH (x1 h)<|fun(g:G) (k:Nat)=>@xM g n k b h
theorem aLL{c:C}{l:List Go.Abs.Op}(e:c= .ao l){α:Type}{A:h3 α}{Γ:ph}{N:fp α}{E:Nat->fp α}{R:fp α}{t:T V}{g:G}{n:Nat}{a:α}:b9 A Γ c N E R t g n a=cI A Γ l N t g n a:=by subst e;unfold b9;rfl
end
end Go.Proofs.Run
namespace Go.Proofs.Run
open Go Go.Abs
attribute [local irreducible] b9 cI cr cg aR
set_option maxRecDepth 100000
def gd:=bs i3.eq_1 (ab aop.eq_1) (ab aox.eq_1) (ab Nc.eq_1) (ab aaw.eq_1) (ab aoU.eq_1) (ab ao1.eq_1) (ab ao7.eq_1) (ab aoq.eq_1) (ab aaf.eq_1) (ab aos.eq_1) (bs (ab aot.eq_1) (ab aou.eq_1) (ab aov.eq_1) (ab aow.eq_1) (ab aan.eq_1) (ab aoy.eq_1) (ab aoz.eq_1) (ab aoA.eq_1) (ab aao.eq_1) (ab aoB.eq_1) (ab aoC.eq_1) (bs (ab aoD.eq_1) (ab aap.eq_1) (ab aoE.eq_1) (ab aoF.eq_1) (ab aoG.eq_1) (ab aoH.eq_1) (ab aoI.eq_1) (ol aoJ.eq_1 18 rfl rfl) (ab aaq.eq_1) (ab aoK.eq_1) (ab aoL.eq_1) (bs (ab aar.eq_1) (ab aas.eq_1) (ab aat.eq_1) (ab aau.eq_1) (ab Em.eq_1) (ab aav.eq_1) (ab aoM.eq_1) (ab aoN.eq_1) (ab aoO.eq_1) (ab aoP.eq_1) (ab aoQ.eq_1) (bs (ab aoR.eq_1) (ab aoS.eq_1) (ab aax.eq_1) (ab aoT.eq_1) (ab aay.eq_1) (ab aaz.eq_1) (ab aaA.eq_1) (ab aoV.eq_1) (ab aaB.eq_1) (ab aoW.eq_1) (ab aoX.eq_1) (bs (ab aoY.eq_1) (ab aaC.eq_1) (ab aaD.eq_1) (ab aaE.eq_1) (ab BR.eq_1) (ab aaF.eq_1) (ab Mo.eq_1) (ab aaG.eq_1) (ab Nd.eq_1) (ab aaH.eq_1) (ab Pw.eq_1) (bs (ab Mp.eq_1) (ab aoZ.eq_1) (ab ao0.eq_1) (ab aaI.eq_1) (ab ao2.eq_1) (ab ao3.eq_1) (ab aaJ.eq_1) (ab ao4.eq_1) (ab aaK.eq_1) (ab Px.eq_1) (ab aaL.eq_1) (bs (ab ao5.eq_1) (ab ao6.eq_1) (ab ao8.eq_1) (ab ao9.eq_1) (ab aaM.eq_1) (eh ao'.eq_1 23 rfl rfl) (ab ao_.eq_1) (ab aaN.eq_1) (ab apa.eq_1) (ab aaO.eq_1) (ab Py.eq_1) (bs (ab aaa.eq_1) (ab aor.eq_1) (ab aab.eq_1) (ab aac.eq_1) (ab aad.eq_1) (ab aae.eq_1) (ab Mm.eq_1) (ab aag.eq_1) (ab aah.eq_1) (ab aai.eq_1) (ab aaj.eq_1) (cc (ab Mn.eq_1) (ab aak.eq_1) (ab aal.eq_1) (ab aam.eq_1))))))))))
def Co:=bs i5.eq_1 (ab aqA.eq_1) (ab aqB.eq_1) (ab aqF.eq_1) (ab ab1.eq_1) (ab aqG.eq_1) (ab aqH.eq_1) (ab aqI.eq_1) (ab aqJ.eq_1) (ab aqK.eq_1) (ab aqC.eq_1) (bs (ab abS.eq_1) (ab abT.eq_1) (ab abU.eq_1) (ab aqD.eq_1) (ab abV.eq_1) (ab abW.eq_1) (ab PA.eq_1) (ab abX.eq_1) (ab aqE.eq_1) (ab abY.eq_1) (ab abZ.eq_1) (ab ab0.eq_1))
def w9:=bs i7.eq_1 (ab aqT.eq_1) (ab aqW.eq_1) (ab aqX.eq_1) (ab aqY.eq_1) (ab acf.eq_1) (ab aqZ.eq_1) (ab aq0.eq_1) (ab aq1.eq_1) (ab ab9.eq_1) (ab aqU.eq_1) (gq (ab aqV.eq_1) (ab ab'.eq_1) (ab ab_.eq_1) (ab aca.eq_1) (ab acb.eq_1) (ab acd.eq_1) (ab ace.eq_1))
def IW:=bs i8.eq_1 (ab arq.eq_1) (ab arr.eq_1) (ab art.eq_1) (ab aru.eq_1) (ab acG.eq_1) (eh arv.eq_1 17 rfl rfl) (ab arw.eq_1) (ab acH.eq_1) (ab PB.eq_1) (ab acI.eq_1) (cc (ab ars.eq_1) (ab acD.eq_1) (ab acE.eq_1) (ab acF.eq_1))
def FE:=bs i9.eq_1 (ab ar1.eq_1) (ab ar2.eq_1) (ab ar4.eq_1) (ab ac9.eq_1) (ab ar5.eq_1) (ab ar6.eq_1) (ab ac'.eq_1) (ab ar7.eq_1) (ab ac_.eq_1) (ab PE.eq_1) (cc (ab ac6.eq_1) (ab ar3.eq_1) (ab ac7.eq_1) (ab ac8.eq_1))
def Of:=bs i10.eq_1 (ab afp.eq_1) (ab afq.eq_1) (ab afr.eq_1) (ab UQ.eq_1) (ab afs.eq_1) (ab aft.eq_1) (ab afu.eq_1) (ab UR.eq_1) (ab afv.eq_1) (ab US.eq_1) (cw (ab UN.eq_1) (ab UO.eq_1) (ab UP.eq_1))
def aui:=ji i11.eq_1 (ab afG.eq_1) (ab afH.eq_1) (ab afI.eq_1) (ab U0.eq_1) (ab afJ.eq_1) (ab afK.eq_1) (ab U1.eq_1) (ab U2.eq_1) (ab U3.eq_1)
def IA:=bs i12.eq_1 (ab agd.eq_1) (eh age.eq_1 10 rfl rfl) (ab agf.eq_1) (ab agh.eq_1) (ab agi.eq_1) (ab agj.eq_1) (ab Vw.eq_1) (ab agk.eq_1) (ab Vr.eq_1) (ab Vs.eq_1) (cw (ab Vt.eq_1) (ab Vu.eq_1) (ab Vv.eq_1))
def IB:=e_ i13.eq_1 (ab agl.eq_1) (ab agm.eq_1) (ab agn.eq_1) (ab Vx.eq_1) (ol ago.eq_1 14 rfl rfl) (ab Vy.eq_1) (ab Vz.eq_1)
def IC:=bs i14.eq_1 (ab agC.eq_1) (ab agD.eq_1) (ab agE.eq_1) (ab VM.eq_1) (ab agF.eq_1) (ab agG.eq_1) (eh agH.eq_1 10 rfl rfl) (ab VN.eq_1) (ab VO.eq_1) (ab VP.eq_1) (ab VL.eq_1)
def ID:=e_ i15.eq_1 (ab agX.eq_1) (ab agY.eq_1) (eh agZ.eq_1 10 rfl rfl) (ab ag0.eq_1) (ab VZ.eq_1) (ab V0.eq_1) (ab V1.eq_1)
def Fq:=bs i16.eq_1 (ab ahw.eq_1) (ab ahx.eq_1) (ab ahz.eq_1) (ab Wm.eq_1) (ab ahA.eq_1) (ab ahB.eq_1) (ab ahC.eq_1) (ab ahD.eq_1) (ab ahE.eq_1) (ab ahF.eq_1) (jO (ab Wf.eq_1) (ab Wg.eq_1) (ab Ps.eq_1) (ab Wh.eq_1) (ab ahy.eq_1) (ab Wi.eq_1) (ab Wj.eq_1) (ab Wk.eq_1) (ab Wl.eq_1))
def ru:=bs i17.eq_1 (ab ah7.eq_1) (ab ah8.eq_1) (ab aid.eq_1) (ab aih.eq_1) (ab aii.eq_1) (ab aij.eq_1) (ab aik.eq_1) (ab WL.eq_1) (ab ah9.eq_1) (ab ah'.eq_1) (bs (ab ah_.eq_1) (ab Wx.eq_1) (ab aia.eq_1) (ab aib.eq_1) (ab aic.eq_1) (ab Wy.eq_1) (ab Wz.eq_1) (ab WA.eq_1) (ab WB.eq_1) (ab aie.eq_1) (ab WC.eq_1) (jO (ab Pt.eq_1) (ab WD.eq_1) (ab aif.eq_1) (ab WE.eq_1) (ab WG.eq_1) (ab WH.eq_1) (ab WI.eq_1) (ab WJ.eq_1) (ab WK.eq_1)))
def Fs:=bs i18.eq_1 (ab aiI.eq_1) (ab aiJ.eq_1) (ab aiL.eq_1) (ab WZ.eq_1) (ab aiM.eq_1) (ab aiN.eq_1) (ab W0.eq_1) (ab aiO.eq_1) (ab W1.eq_1) (ab Pu.eq_1) (cc (ab WW.eq_1) (ab aiK.eq_1) (ab WX.eq_1) (ab WY.eq_1))
def auu:=cc i19.eq_1 (ab aiP.eq_1) (ab aiQ.eq_1) (ab W2.eq_1)
def auv:=cc i20.eq_1 (ab aiR.eq_1) (ab aiS.eq_1) (ab W3.eq_1)
def lm:=bs i25.eq_1 (ab akZ.eq_1) (ab ak6.eq_1) (ab ak'.eq_1) (ab ak_.eq_1) (ab Yp.eq_1) (ab ak0.eq_1) (ab ak1.eq_1) (ab Ye.eq_1) (ab ak2.eq_1) (ab ak3.eq_1) (bs (ab Yf.eq_1) (ab ak4.eq_1) (ab ak5.eq_1) (ab ak7.eq_1) (ab ak8.eq_1) (ab Yg.eq_1) (ab Yh.eq_1) (ab Yi.eq_1) (ab ak9.eq_1) (ab Yj.eq_1) (ab Yk.eq_1) (cc (ab Yl.eq_1) (ab Ym.eq_1) (ab Yn.eq_1) (ab Yo.eq_1)))
def auI:=cc i29.eq_1 (ab amF.eq_1) (ab amG.eq_1) (ab Za.eq_1)
def auM:=cc i30.eq_1 (ab amP.eq_1) (ab amQ.eq_1) (ab Zb.eq_1)
def qF:=bs i31.eq_1 (ab amR.eq_1) (ab amZ.eq_1) (ab am3.eq_1) (ab am4.eq_1) (ab Zn.eq_1) (ab Zo.eq_1) (ab am5.eq_1) (ab am6.eq_1) (ab Zp.eq_1) (ab amS.eq_1) (bs (ab amT.eq_1) (ab amU.eq_1) (ab amV.eq_1) (ab amW.eq_1) (ab amX.eq_1) (ab amY.eq_1) (ab Zc.eq_1) (ol am0.eq_1 11 rfl rfl) (ab Zd.eq_1) (ab Ze.eq_1) (ab am1.eq_1) (ji (ab Zf.eq_1) (ab Zg.eq_1) (ab Pv.eq_1) (ab Zh.eq_1) (ab am2.eq_1) (ab Zi.eq_1) (ab Zj.eq_1) (ab Zk.eq_1) (ab Zl.eq_1) (ab Zm.eq_1)))
def OX:=e_ i32.eq_1 (ab ano.eq_1) (ab anp.eq_1) (ab anq.eq_1) (ab ZA.eq_1) (ab anr.eq_1) (ab ZB.eq_1) (ab ZC.eq_1)
def IQ:=bs i34.eq_1 (ab anM.eq_1) (eh anO.eq_1 54 rfl rfl) (ab anP.eq_1) (ab anQ.eq_1) (ab ZK.eq_1) (ab ZL.eq_1) (ab anR.eq_1) (ab anS.eq_1) (ab ZH.eq_1) (ab anN.eq_1) (aN (ab ZI.eq_1) (ab ZJ.eq_1))
def IS:=bs i35.eq_1 (ab anW.eq_1) (ab anX.eq_1) (ab an5.eq_1) (ab ZS.eq_1) (ab aoa.eq_1) (eh aob.eq_1 25 rfl rfl) (ab aoc.eq_1) (ab Z3.eq_1) (ab aod.eq_1) (ab anY.eq_1) (bs (ab anZ.eq_1) (ab an0.eq_1) (ab an1.eq_1) (ab an2.eq_1) (ab an3.eq_1) (ab ZN.eq_1) (ab ZO.eq_1) (ab ZP.eq_1) (ab an4.eq_1) (ab an6.eq_1) (ab an7.eq_1) (bs (ab ZQ.eq_1) (ab an8.eq_1) (ab an9.eq_1) (ab ZR.eq_1) (ab an'.eq_1) (eh an_.eq_1 33 rfl rfl) (ab ZT.eq_1) (ab ZU.eq_1) (ab ZV.eq_1) (ab ZW.eq_1) (ab ZX.eq_1) (eW (ab ZY.eq_1) (ab ZZ.eq_1) (ab Z0.eq_1) (ab Z1.eq_1) (ab Z2.eq_1))))
def O8:=d' i36.eq_1 (ab aoe.eq_1) (eh aof.eq_1 10 rfl rfl) (ab aog.eq_1) (ab Z4.eq_1) (ab Z5.eq_1)
def rv:=bs i43.eq_1 (ab HS.eq_1) (ab HT.eq_1) (ab HU.eq_1) (ab HV.eq_1) (ab HW.eq_1) (ab HX.eq_1) (ab HY.eq_1) (ab apb.eq_1) (ab HC.eq_1) (ab HZ.eq_1) (gq (ab Hv.eq_1) (ab Hw.eq_1) (ab Hx.eq_1) (ab Hy.eq_1) (ab Hz.eq_1) (ab HA.eq_1) (ab HB.eq_1))
def IT:=cc i44.eq_1 (ab apc.eq_1) (ab apd.eq_1) (ab aaP.eq_1)
def O_:=d' i45.eq_1 (ab ape.eq_1) (ab apf.eq_1) (ab apg.eq_1) (ab aaQ.eq_1) (ab aaR.eq_1)
def auX:=e_ i47.eq_1 (ab aph.eq_1) (ab api.eq_1) (ab apj.eq_1) (ab aaS.eq_1) (ab apk.eq_1) (ab aaT.eq_1) (ab aaU.eq_1)
def Cn:=bs i48.eq_1 (ab apl.eq_1) (ab apm.eq_1) (ab apt.eq_1) (ab apG.eq_1) (ab apJ.eq_1) (ab abc.eq_1) (ab apS.eq_1) (ab apT.eq_1) (ab apn.eq_1) (ab aaV.eq_1) (bs (ab apo.eq_1) (ab app.eq_1) (ab aaW.eq_1) (ab apq.eq_1) (ab apr.eq_1) (ab aaX.eq_1) (ab aps.eq_1) (ab apu.eq_1) (ab aaY.eq_1) (ab apv.eq_1) (ab apw.eq_1) (bs (ab apx.eq_1) (eh apy.eq_1 8 rfl rfl) (ab apz.eq_1) (ab aaZ.eq_1) (ab apA.eq_1) (ab aa0.eq_1) (ab aa1.eq_1) (ab aa2.eq_1) (ab apB.eq_1) (ab apC.eq_1) (ab apD.eq_1) (bs (ab apE.eq_1) (ab apF.eq_1) (ab apH.eq_1) (ab aa3.eq_1) (ab apI.eq_1) (ab aa4.eq_1) (ab aa5.eq_1) (ab aa6.eq_1) (ab aa7.eq_1) (ab aa8.eq_1) (ab aa9.eq_1) (bs (ab aa'.eq_1) (ab aa_.eq_1) (ab aba.eq_1) (ab apK.eq_1) (ab apL.eq_1) (ab apM.eq_1) (ab apN.eq_1) (ab abb.eq_1) (ab apO.eq_1) (ab apP.eq_1) (ab apQ.eq_1) (e_ (ab abd.eq_1) (ab apR.eq_1) (ab abe.eq_1) (ab abf.eq_1) (ab abg.eq_1) (ab abh.eq_1) (ab abi.eq_1) (ab abj.eq_1))))))
def Pa:=d' i49.eq_1 (ab apU.eq_1) (ab apV.eq_1) (ab apW.eq_1) (ab abk.eq_1) (ab abl.eq_1)
def auY:=aN i50.eq_1 (ab apX.eq_1)
def auZ:=e_ i52.eq_1 (ab apY.eq_1) (ab apZ.eq_1) (ab ap0.eq_1) (ab abm.eq_1) (ab ap1.eq_1) (ab abn.eq_1) (ab abo.eq_1)
def Cp:=bs i53.eq_1 (eh ap2.eq_1 15 rfl rfl) (ab ap5.eq_1) (ab ap6.eq_1) (ab ap7.eq_1) (ab abr.eq_1) (ab abt.eq_1) (ab abu.eq_1) (eh ap8.eq_1 18 rfl rfl) (ab ap3.eq_1) (ab ap4.eq_1) (aN (ab abp.eq_1) (ab abq.eq_1))
def IU:=d' i54.eq_1 (ab ap9.eq_1) (ab ap'.eq_1) (ab ap_.eq_1) (ab abv.eq_1) (ab abw.eq_1)
def Pb:=cc i55.eq_1 (ab aqa.eq_1) (ab aqb.eq_1) (ab abx.eq_1)
def yA:=bs i57.eq_1 (ab aqc.eq_1) (ab aqh.eq_1) (ab aqk.eq_1) (ab aql.eq_1) (ab abH.eq_1) (ab aqm.eq_1) (ab aqn.eq_1) (ab abI.eq_1) (ab aqo.eq_1) (ab aqd.eq_1) (bs (ab aqe.eq_1) (ab aqf.eq_1) (ab aby.eq_1) (ab abz.eq_1) (ab aqg.eq_1) (ab abA.eq_1) (ab Pz.eq_1) (ab abB.eq_1) (ab aqi.eq_1) (ab aqj.eq_1) (ab abC.eq_1) (cc (ab abD.eq_1) (ab abE.eq_1) (ab abF.eq_1) (ab abG.eq_1)))
def IV:=bs i58.eq_1 (ab aqp.eq_1) (ab aqq.eq_1) (ab aqr.eq_1) (ab abK.eq_1) (eh aqs.eq_1 7 rfl rfl) (ab aqt.eq_1) (ab aqu.eq_1) (ab abL.eq_1) (ab abM.eq_1) (ab abN.eq_1) (ab abJ.eq_1)
def au0:=ji i59.eq_1 (ab aqv.eq_1) (ab aqw.eq_1) (ab aqx.eq_1) (ab aqy.eq_1) (ab aqz.eq_1) (ab abO.eq_1) (ab abP.eq_1) (ab abQ.eq_1) (ab abR.eq_1)
def au1:=bs i76.eq_1 (ab aqL.eq_1) (ab aqM.eq_1) (ab aqN.eq_1) (ab aqO.eq_1) (ab aqP.eq_1) (ab aqQ.eq_1) (ab aqR.eq_1) (ab aqS.eq_1) (ab ab7.eq_1) (ab ab8.eq_1) (eW (ab ab2.eq_1) (ab ab3.eq_1) (ab ab4.eq_1) (ab ab5.eq_1) (ab ab6.eq_1))
def IX:=bs i86.eq_1 (ab aq2.eq_1) (ab aq3.eq_1) (ab aq6.eq_1) (ab aq7.eq_1) (ab aq8.eq_1) (ab aco.eq_1) (ab aq9.eq_1) (ab aq'.eq_1) (ab aq4.eq_1) (ab acg.eq_1) (gq (ab aq5.eq_1) (ab ach.eq_1) (ab aci.eq_1) (ab acj.eq_1) (ab ack.eq_1) (ab acm.eq_1) (ab acn.eq_1))
def au2:=e_ i87.eq_1 (ab aq_.eq_1) (ab ara.eq_1) (ab arb.eq_1) (ab acp.eq_1) (ab arc.eq_1) (ab acq.eq_1) (ab acr.eq_1)
def Pc:=cc i88.eq_1 (ab ard.eq_1) (ab are.eq_1) (ab acs.eq_1)
def IY:=bs i89.eq_1 (ab arf.eq_1) (ab arh.eq_1) (ab ark.eq_1) (eh arl.eq_1 8 rfl rfl) (ab acB.eq_1) (ab arm.eq_1) (ab arn.eq_1) (ab aro.eq_1) (ab arp.eq_1) (ab acC.eq_1) (jO (ab acu.eq_1) (eh ari.eq_1 11 rfl rfl) (ab arj.eq_1) (ab acv.eq_1) (ab acw.eq_1) (ab acx.eq_1) (ab acy.eq_1) (ab acz.eq_1) (ab acA.eq_1))
def Pd:=d' i91.eq_1 (ab arx.eq_1) (ab ary.eq_1) (ol arz.eq_1 13 rfl rfl) (ab acJ.eq_1) (ab acK.eq_1)
def Pe:=e_ i92.eq_1 (ab arA.eq_1) (ab arB.eq_1) (ab arC.eq_1) (ab arD.eq_1) (ab acL.eq_1) (ab acM.eq_1) (ab acN.eq_1)
def IZ:=bs i93.eq_1 (ab arE.eq_1) (ab arF.eq_1) (ab arG.eq_1) (ab acP.eq_1) (ab arH.eq_1) (ab arI.eq_1) (eh arJ.eq_1 10 rfl rfl) (ab acQ.eq_1) (ab acR.eq_1) (ab acS.eq_1) (ab acO.eq_1)
def Pf:=cc i94.eq_1 (ab arK.eq_1) (ab arL.eq_1) (ab acT.eq_1)
def Pg:=cc i97.eq_1 (ab arM.eq_1) (ab arN.eq_1) (ab acU.eq_1)
def Cq:=bs i98.eq_1 (ab arO.eq_1) (ab arS.eq_1) (eh arT.eq_1 13 rfl rfl) (eh arU.eq_1 8 rfl rfl) (ab arV.eq_1) (ab arW.eq_1) (ab arX.eq_1) (ab arY.eq_1) (ab acV.eq_1) (ab acW.eq_1) (bs (ab arP.eq_1) (ab acX.eq_1) (ab acY.eq_1) (ab PD.eq_1) (ab acZ.eq_1) (ab arQ.eq_1) (ab arR.eq_1) (ab ac0.eq_1) (ab ac1.eq_1) (ab ac2.eq_1) (ab ac3.eq_1) (ab ac4.eq_1))
def Ph:=cc i99.eq_1 (ab arZ.eq_1) (ab ar0.eq_1) (ab ac5.eq_1)
def aug:=e_ i100.eq_1 (ab aeS.eq_1) (ol aeT.eq_1 17 rfl rfl) (ab aeU.eq_1) (ab aeV.eq_1) (ab Um.eq_1) (ab Un.eq_1) (ab Uo.eq_1)
def Iz:=bs i101.eq_1 (ab aeW.eq_1) (ab aeY.eq_1) (ab aeZ.eq_1) (ab Ut.eq_1) (ab ae0.eq_1) (ab ae1.eq_1) (ab ae2.eq_1) (ab Uu.eq_1) (ab aeX.eq_1) (ab Up.eq_1) (cw (ab Uq.eq_1) (ab Ur.eq_1) (ab Us.eq_1))
def Og:=cc i102.eq_1 (ab ae3.eq_1) (ab ae4.eq_1) (ab Uv.eq_1)
def auh:=bs i103.eq_1 (ab ae5.eq_1) (ab ae6.eq_1) (ab ae7.eq_1) (ab ae8.eq_1) (ab Uz.eq_1) (ab ae9.eq_1) (ab ae'.eq_1) (ab ae_.eq_1) (ab UA.eq_1) (ab UB.eq_1) (cw (ab Uw.eq_1) (ab Ux.eq_1) (ab Uy.eq_1))
def Oh:=d' i105.eq_1 (ab afa.eq_1) (ab afb.eq_1) (ol afc.eq_1 13 rfl rfl) (ab UC.eq_1) (ab UD.eq_1)
def Oi:=e_ i106.eq_1 (ab afd.eq_1) (ab afe.eq_1) (ab aff.eq_1) (ab afg.eq_1) (ab UE.eq_1) (ab UF.eq_1) (ab UG.eq_1)
def Oj:=bs i107.eq_1 (ab afh.eq_1) (ab afi.eq_1) (ab afj.eq_1) (ab UI.eq_1) (ab afk.eq_1) (ab afl.eq_1) (eh afm.eq_1 10 rfl rfl) (ab UJ.eq_1) (ab UK.eq_1) (ab UL.eq_1) (ab UH.eq_1)
def Ok:=cc i108.eq_1 (ab afn.eq_1) (ab afo.eq_1) (ab UM.eq_1)
def Ol:=cc i111.eq_1 (ab afw.eq_1) (ab afx.eq_1) (ab UT.eq_1)
def Om:=cc i112.eq_1 (ab afy.eq_1) (ab afz.eq_1) (ab UU.eq_1)
def On:=cc i113.eq_1 (ab afA.eq_1) (ab afB.eq_1) (ab UW.eq_1)
def auj:=e_ i114.eq_1 (ab afC.eq_1) (ab afD.eq_1) (ab afE.eq_1) (ab afF.eq_1) (ab UX.eq_1) (ab UY.eq_1) (ab UZ.eq_1)
def Oo:=cc i125.eq_1 (ab afL.eq_1) (ab afM.eq_1) (ab U4.eq_1)
def ug:=bs i126.eq_1 (ab afN.eq_1) (ab afR.eq_1) (ab afT.eq_1) (ab afU.eq_1) (eh afV.eq_1 25 rfl rfl) (ab afW.eq_1) (ab afX.eq_1) (ab afY.eq_1) (ab afO.eq_1) (ab U5.eq_1) (bs (ab afP.eq_1) (ab U6.eq_1) (ab U7.eq_1) (ab U8.eq_1) (ab U9.eq_1) (ab U'.eq_1) (ab U_.eq_1) (ab afQ.eq_1) (ab afS.eq_1) (ab Va.eq_1) (ab Vb.eq_1) (ab Vc.eq_1))
def Cj:=bs i127.eq_1 (ab afZ.eq_1) (ab af0.eq_1) (ab af2.eq_1) (ab af3.eq_1) (ab af4.eq_1) (ab af5.eq_1) (ab Vh.eq_1) (ab Vi.eq_1) (ab af6.eq_1) (ab Vj.eq_1) (d' (ab Vd.eq_1) (ab Pq.eq_1) (ab Ve.eq_1) (ab af1.eq_1) (ab Vf.eq_1) (ab Vg.eq_1))
def Ck:=bs i128.eq_1 (ab af7.eq_1) (ab af8.eq_1) (ab af'.eq_1) (ab af_.eq_1) (ab aga.eq_1) (ab agb.eq_1) (ab Vo.eq_1) (ab Vp.eq_1) (ab agc.eq_1) (ab Vq.eq_1) (d' (ab Vk.eq_1) (ab Pr.eq_1) (ab Vl.eq_1) (ab af9.eq_1) (ab Vm.eq_1) (ab Vn.eq_1))
def Oq:=bs i145.eq_1 (ab agp.eq_1) (ab agq.eq_1) (ab ags.eq_1) (ab agt.eq_1) (ab agu.eq_1) (ab VG.eq_1) (ab VH.eq_1) (ab agv.eq_1) (ab agw.eq_1) (ol agx.eq_1 11 rfl rfl) (d' (ab agr.eq_1) (ab VB.eq_1) (ab VC.eq_1) (ab VD.eq_1) (ab VE.eq_1) (ab VF.eq_1))
def auk:=e_ i149.eq_1 (ab agy.eq_1) (ab agz.eq_1) (ab agA.eq_1) (ab agB.eq_1) (ab VI.eq_1) (ab VJ.eq_1) (ab VK.eq_1)
def Ot:=d' i153.eq_1 (ab agI.eq_1) (ab agJ.eq_1) (ab agK.eq_1) (ab VR.eq_1) (ab VS.eq_1)
def Ou:=cc i155.eq_1 (ab agL.eq_1) (ab agM.eq_1) (ab VT.eq_1)
def IE:=gq i157.eq_1 (ab agN.eq_1) (ol agO.eq_1 23 rfl rfl) (ab agP.eq_1) (ab agQ.eq_1) (ab VU.eq_1) (ab VV.eq_1)
def aul:=e_ i158.eq_1 (ab agR.eq_1) (ab agS.eq_1) (ab agT.eq_1) (ab VW.eq_1) (ab agU.eq_1) (ab VX.eq_1) (ab VY.eq_1)
def Ov:=cw i159.eq_1 (ab agV.eq_1) (ab agW.eq_1)
def Ow:=kw i160.eq_1 (ab ag1.eq_1) (eh ag2.eq_1 13 rfl rfl) (ab ag3.eq_1) (ab ag4.eq_1) (ab ag5.eq_1) (ab ag6.eq_1) (ab V3.eq_1) (ab V4.eq_1) (ab V5.eq_1) (ab V2.eq_1)
def IF:=aN i161.eq_1 (eh ag7.eq_1 12 rfl rfl)
def Ox:=bs i162.eq_1 (ab ag8.eq_1) (ab ag9.eq_1) (ab ahb.eq_1) (ab ahc.eq_1) (ab ahd.eq_1) (ab ahe.eq_1) (ab ahf.eq_1) (ab ahg.eq_1) (ab ahh.eq_1) (ab ahi.eq_1) (jO (ab ag'.eq_1) (ab ag_.eq_1) (ab aha.eq_1) (ab V6.eq_1) (ab V7.eq_1) (ab V8.eq_1) (ab V9.eq_1) (ab V'.eq_1) (ab V_.eq_1))
def Oy:=cw i163.eq_1 (ab ahj.eq_1) (ab ahk.eq_1)
def Oz:=jO i164.eq_1 (ab ahl.eq_1) (ol ahm.eq_1 17 rfl rfl) (ab ahn.eq_1) (ab aho.eq_1) (eh ahp.eq_1 8 rfl rfl) (ab Wa.eq_1) (ab Wb.eq_1) (ab Wc.eq_1)
def aum:=cc i165.eq_1 (ab ahq.eq_1) (ol ahr.eq_1 24 rfl rfl) (ab Wd.eq_1)
def aun:=cw i167.eq_1 (ab ahs.eq_1) (ab aht.eq_1)
def auo:=cc i169.eq_1 (ab ahu.eq_1) (ab ahv.eq_1) (ab We.eq_1)
def aup:=cw i170.eq_1 (eh ahG.eq_1 7 rfl rfl) (ab ahH.eq_1)
def IG:=eW i171.eq_1 (ab ahI.eq_1) (eh ahJ.eq_1 15 rfl rfl) (eh ahK.eq_1 7 rfl rfl) (ab Wn.eq_1)
def OA:=aN i172.eq_1 (ab ahL.eq_1)
def Au:=cw i173.eq_1 (eh ahM.eq_1 24 rfl rfl) (ab ahN.eq_1)
def OB:=eW i174.eq_1 (ab ahO.eq_1) (ol ahP.eq_1 17 rfl rfl) (ab ahQ.eq_1) (ab Wo.eq_1)
def auq:=gq i175.eq_1 (ab ahR.eq_1) (ab ahS.eq_1) (ab ahT.eq_1) (ab Wp.eq_1) (ab ahU.eq_1) (ab Wq.eq_1)
def aur:=aN i176.eq_1 (ab ahV.eq_1)
def OC:=jO i177.eq_1 (ab ahW.eq_1) (eh ahX.eq_1 6 rfl rfl) (ab ahY.eq_1) (ab ahZ.eq_1) (ab ah0.eq_1) (ab Wr.eq_1) (ab Ws.eq_1) (ab Wt.eq_1)
def OD:=d' i178.eq_1 (ab ah1.eq_1) (ol ah2.eq_1 11 rfl rfl) (ab ah3.eq_1) (ab Wu.eq_1) (ab Wv.eq_1)
def IH:=eW i179.eq_1 (ab ah4.eq_1) (ab ah5.eq_1) (ab ah6.eq_1) (ab Ww.eq_1)
def aus:=cw i182.eq_1 (ab ail.eq_1) (ab aim.eq_1)
def aut:=e_ i183.eq_1 (ab ain.eq_1) (ol aio.eq_1 19 rfl rfl) (ab aip.eq_1) (ab aiq.eq_1) (ab WM.eq_1) (ab WN.eq_1) (ab WO.eq_1)
def OE:=gq i184.eq_1 (ab air.eq_1) (ab ais.eq_1) (ab ait.eq_1) (ab WQ.eq_1) (ab aiu.eq_1) (ab WR.eq_1)
def Ft:=cc i185.eq_1 (ab aiv.eq_1) (ab aiw.eq_1) (ab WS.eq_1)
def Fu:=cc i186.eq_1 (ab aix.eq_1) (ab aiy.eq_1) (ab WT.eq_1)
def Av:=bs i187.eq_1 (eh aiz.eq_1 17 rfl rfl) (ab aiC.eq_1) (ab aiD.eq_1) (ab aiE.eq_1) (eh aiF.eq_1 14 rfl rfl) (ab aiG.eq_1) (eh aiH.eq_1 14 rfl rfl) (ab aiA.eq_1) (ab WU.eq_1) (ab WV.eq_1) (ab aiB.eq_1)
def OF:=ji i211.eq_1 (ab aiT.eq_1) (eh aiU.eq_1 18 rfl rfl) (ab aiV.eq_1) (ab aiW.eq_1) (ab W4.eq_1) (ab aiX.eq_1) (ab W5.eq_1) (ab W6.eq_1) (ab W7.eq_1)
def OG:=cc i212.eq_1 (ab aiY.eq_1) (ab aiZ.eq_1) (ab W8.eq_1)
def OH:=bs i214.eq_1 (ab ai0.eq_1) (ab ai1.eq_1) (ab ai4.eq_1) (ab ai5.eq_1) (ab ai6.eq_1) (ab ai7.eq_1) (ab Xd.eq_1) (ab Xe.eq_1) (ab ai8.eq_1) (ab ai2.eq_1) (gq (ab ai3.eq_1) (ab W9.eq_1) (ab W'.eq_1) (ab W_.eq_1) (ab Xa.eq_1) (ab Xb.eq_1) (ab Xc.eq_1))
def II:=d' i215.eq_1 (ab ai9.eq_1) (ab ai'.eq_1) (ab ai_.eq_1) (ab Xf.eq_1) (ab Xg.eq_1)
def OI:=bs i216.eq_1 (ab aja.eq_1) (ab ajb.eq_1) (ab aje.eq_1) (ab ajf.eq_1) (ab ajg.eq_1) (ab ajh.eq_1) (ab aji.eq_1) (ab Xl.eq_1) (ab Xm.eq_1) (ab Xh.eq_1) (eW (ab ajc.eq_1) (ab ajd.eq_1) (ab Xi.eq_1) (ab Xj.eq_1) (ab Xk.eq_1))
def auw:=cc i217.eq_1 (ab ajj.eq_1) (ab ajk.eq_1) (ab Xn.eq_1)
def auy:=cc i218.eq_1 (ab ajl.eq_1) (ab ajm.eq_1) (ab Xo.eq_1)
def auz:=cc i220.eq_1 (ab ajn.eq_1) (ab ajo.eq_1) (ab Xp.eq_1)
def uh:=cc i221.eq_1 (ab ajp.eq_1) (ab ajq.eq_1) (ab Xq.eq_1)
def Fv:=jO i222.eq_1 (eh ajr.eq_1 19 rfl rfl) (eh ajs.eq_1 18 rfl rfl) (ab ajt.eq_1) (ab Xr.eq_1) (eh aju.eq_1 9 rfl rfl) (ab ajv.eq_1) (ab Xs.eq_1) (ab Xt.eq_1)
def IJ:=ji i223.eq_1 (eh ajw.eq_1 23 rfl rfl) (ab ajx.eq_1) (ab ajy.eq_1) (ab ajz.eq_1) (ab ajA.eq_1) (ab Xu.eq_1) (ab Xv.eq_1) (ab Xw.eq_1) (ab Xx.eq_1)
def auA:=aN i224.eq_1 (ab ajB.eq_1)
def OJ:=cw i225.eq_1 (eh ajC.eq_1 16 rfl rfl) (ab ajD.eq_1)
def yy:=bs i226.eq_1 (eh ajE.eq_1 20 rfl rfl) (ab ajG.eq_1) (eh ajH.eq_1 22 rfl rfl) (ab ajI.eq_1) (eh ajJ.eq_1 15 rfl rfl) (ab ajK.eq_1) (ab ajL.eq_1) (ab ajM.eq_1) (eh ajN.eq_1 12 rfl rfl) (ab Xy.eq_1) (d' (ab ajF.eq_1) (ab Xz.eq_1) (ab XA.eq_1) (ab XB.eq_1) (ab XC.eq_1) (ab XD.eq_1))
def w8:=jO i230.eq_1 (ol ajO.eq_1 21 rfl rfl) (ab ajP.eq_1) (ab ajQ.eq_1) (ab ajR.eq_1) (ab XE.eq_1) (ab XF.eq_1) (ab ajS.eq_1) (ab XG.eq_1)
def Fw:=gq i231.eq_1 (eh ajT.eq_1 18 rfl rfl) (ol ajU.eq_1 23 rfl rfl) (ab ajV.eq_1) (eh ajW.eq_1 8 rfl rfl) (ab XH.eq_1) (ab XI.eq_1)
def auB:=cc i232.eq_1 (ab ajX.eq_1) (ab ajY.eq_1) (ab XJ.eq_1)
def Aw:=eW i233.eq_1 (eh ajZ.eq_1 17 rfl rfl) (ab aj0.eq_1) (ab aj1.eq_1) (ab XK.eq_1)
def Fx:=cw i234.eq_1 (eh aj2.eq_1 15 rfl rfl) (ab aj3.eq_1)
def OK:=cw i235.eq_1 (ab aj4.eq_1) (ab aj5.eq_1)
def OL:=d' i236.eq_1 (ab aj6.eq_1) (ab aj7.eq_1) (ab aj8.eq_1) (ab XL.eq_1) (ab XM.eq_1)
def Ax:=cc i237.eq_1 (ab aj9.eq_1) (ab aj'.eq_1) (ab XN.eq_1)
def IK:=e_ i240.eq_1 (ab aj_.eq_1) (ab aka.eq_1) (ab akb.eq_1) (ab XO.eq_1) (ab akc.eq_1) (ab XP.eq_1) (ab XQ.eq_1)
def OM:=bs i241.eq_1 (ab akd.eq_1) (ab ake.eq_1) (ab akg.eq_1) (ab akh.eq_1) (ab aki.eq_1) (eh akj.eq_1 8 rfl rfl) (ab akk.eq_1) (ab akl.eq_1) (ab akm.eq_1) (ab akn.eq_1) (gq (ab akf.eq_1) (ab XR.eq_1) (ab XS.eq_1) (ab XT.eq_1) (ab XU.eq_1) (ab XV.eq_1) (ab XW.eq_1))
def auC:=gq i242.eq_1 (ab ako.eq_1) (ab akp.eq_1) (ab akq.eq_1) (ab XX.eq_1) (eh akr.eq_1 11 rfl rfl) (ab XY.eq_1)
def auD:=cc i243.eq_1 (ab aks.eq_1) (ab akt.eq_1) (ab XZ.eq_1)
def auE:=aN i244.eq_1 (eh aku.eq_1 7 rfl rfl)
def auF:=cw i245.eq_1 (ab akv.eq_1) (ab akw.eq_1)
def ON:=gq i246.eq_1 (ab akx.eq_1) (ab aky.eq_1) (ab akz.eq_1) (ab X0.eq_1) (eh akA.eq_1 8 rfl rfl) (ab X1.eq_1)
def Cl:=eW i247.eq_1 (ab akB.eq_1) (eh akC.eq_1 17 rfl rfl) (ab akD.eq_1) (ab X2.eq_1)
def OO:=cw i251.eq_1 (eh akE.eq_1 15 rfl rfl) (ab akF.eq_1)
def Fy:=cc i252.eq_1 (ab akG.eq_1) (ab akH.eq_1) (ab X3.eq_1)
def Fz:=bs i253.eq_1 (ab akI.eq_1) (ab akJ.eq_1) (ab X6.eq_1) (ab X7.eq_1) (ab akK.eq_1) (ab akL.eq_1) (ab X8.eq_1) (ab akM.eq_1) (ab akN.eq_1) (ab X4.eq_1) (ab X5.eq_1)
def FA:=cc i254.eq_1 (ab akO.eq_1) (ab akP.eq_1) (ab X9.eq_1)
def Ay:=bs i255.eq_1 (ab akQ.eq_1) (ab akU.eq_1) (ab akV.eq_1) (ab akW.eq_1) (ol akX.eq_1 38 rfl rfl) (ab akY.eq_1) (ab Yc.eq_1) (ab Yd.eq_1) (ab X'.eq_1) (ab akR.eq_1) (eW (ab akS.eq_1) (ab akT.eq_1) (ab X_.eq_1) (ab Ya.eq_1) (ab Yb.eq_1))
def OP:=cc i264.eq_1 (ab ala.eq_1) (ab alb.eq_1) (ab Yq.eq_1)
def IL:=bs i265.eq_1 (ab alc.eq_1) (eh ald.eq_1 19 rfl rfl) (ab ale.eq_1) (ab alf.eq_1) (ab Yt.eq_1) (ab alg.eq_1) (ab alh.eq_1) (ab Yu.eq_1) (ab Yv.eq_1) (ab Yr.eq_1) (ab Ys.eq_1)
def auG:=bs i268.eq_1 (ab ali.eq_1) (ab alj.eq_1) (ab alr.eq_1) (ab alC.eq_1) (ab alG.eq_1) (ab alI.eq_1) (ab alJ.eq_1) (ab alK.eq_1) (ab alL.eq_1) (ab alM.eq_1) (bs (ab alk.eq_1) (ab alm.eq_1) (ab Yw.eq_1) (ab aln.eq_1) (ab alo.eq_1) (ab alp.eq_1) (ab Yx.eq_1) (ab alq.eq_1) (ab als.eq_1) (ab alt.eq_1) (ab alu.eq_1) (bs (ab alv.eq_1) (ab alw.eq_1) (ab alx.eq_1) (ab aly.eq_1) (ab alz.eq_1) (ab alA.eq_1) (ab alB.eq_1) (ab alD.eq_1) (ab alE.eq_1) (ab alF.eq_1) (ab Yy.eq_1) (bs (ab Yz.eq_1) (ab YA.eq_1) (ab YB.eq_1) (ab YC.eq_1) (ab YD.eq_1) (ab YE.eq_1) (ab YF.eq_1) (ab YG.eq_1) (ab YH.eq_1) (ab YI.eq_1) (ab YJ.eq_1) (eW (ab YK.eq_1) (ab alH.eq_1) (ab YL.eq_1) (ab YM.eq_1) (ab YN.eq_1)))))
def OQ:=eW i280.eq_1 (ab alN.eq_1) (ab alO.eq_1) (ab alP.eq_1) (ab YO.eq_1)
def OR:=cc i281.eq_1 (ab alQ.eq_1) (ab alR.eq_1) (ab YP.eq_1)
def IM:=bs i282.eq_1 (ab alS.eq_1) (ab alT.eq_1) (ab alU.eq_1) (ab alV.eq_1) (ab YT.eq_1) (ab alW.eq_1) (ol alX.eq_1 17 rfl rfl) (ab alY.eq_1) (ab YU.eq_1) (ab YQ.eq_1) (aN (ab YR.eq_1) (ab YS.eq_1))
def FB:=kw i283.eq_1 (ab alZ.eq_1) (eh al0.eq_1 29 rfl rfl) (ab al1.eq_1) (ab al2.eq_1) (ab YW.eq_1) (ab al3.eq_1) (ab al4.eq_1) (ab YX.eq_1) (ab YY.eq_1) (ab YV.eq_1)
def Az:=cw i285.eq_1 (eh al5.eq_1 15 rfl rfl) (ab al6.eq_1)
def FC:=cw i286.eq_1 (ol al7.eq_1 18 rfl rfl) (ab al8.eq_1)
def AA:=eW i287.eq_1 (eh al9.eq_1 19 rfl rfl) (eh al'.eq_1 12 rfl rfl) (ab al_.eq_1) (ab YZ.eq_1)
def Cm:=ji i288.eq_1 (ab ama.eq_1) (eh amb.eq_1 15 rfl rfl) (ab amc.eq_1) (ab Y3.eq_1) (ol amd.eq_1 17 rfl rfl) (ab ame.eq_1) (ab Y0.eq_1) (ab Y1.eq_1) (ab Y2.eq_1)
def auH:=cw i289.eq_1 (ab amf.eq_1) (ab amg.eq_1)
def auJ:=cw i290.eq_1 (ab amh.eq_1) (ab ami.eq_1)
def OS:=cw i291.eq_1 (ab amj.eq_1) (ab amk.eq_1)
def IN:=gq i292.eq_1 (ab aml.eq_1) (eh amm.eq_1 7 rfl rfl) (ab amn.eq_1) (ab Y4.eq_1) (ab amo.eq_1) (ab Y5.eq_1)
def OT:=cw i294.eq_1 (ab amp.eq_1) (ab amq.eq_1)
def auK:=cw i295.eq_1 (ab amr.eq_1) (eh ams.eq_1 8 rfl rfl)
def OU:=cw i296.eq_1 (eh amt.eq_1 12 rfl rfl) (ab amu.eq_1)
def auL:=cw i297.eq_1 (ab amv.eq_1) (ab amw.eq_1)
def FD:=bs i299.eq_1 (ab amx.eq_1) (ab amz.eq_1) (ab amA.eq_1) (ab Y'.eq_1) (ab amB.eq_1) (ab amC.eq_1) (ab amD.eq_1) (ab amE.eq_1) (ab Y_.eq_1) (eh amy.eq_1 7 rfl rfl) (cc (ab Y6.eq_1) (ab Y7.eq_1) (ab Y8.eq_1) (ab Y9.eq_1))
def auN:=cw i300.eq_1 (ab amH.eq_1) (eh amI.eq_1 13 rfl rfl)
def auO:=aN i301.eq_1 (ab amJ.eq_1)
def auP:=aN i302.eq_1 (ab amK.eq_1)
def OV:=cw i303.eq_1 (eh amL.eq_1 9 rfl rfl) (ab amM.eq_1)
def OW:=cw i304.eq_1 (eh amN.eq_1 17 rfl rfl) (ab amO.eq_1)
def OY:=d' i323.eq_1 (ab am7.eq_1) (ab am8.eq_1) (ab am9.eq_1) (ab Zq.eq_1) (ab Zr.eq_1)
def yz:=ji i324.eq_1 (ab am'.eq_1) (eh am_.eq_1 14 rfl rfl) (ab ana.eq_1) (ab anb.eq_1) (eh anc.eq_1 8 rfl rfl) (ab Zs.eq_1) (ab Zt.eq_1) (ab Zu.eq_1) (ab Zv.eq_1)
def OZ:=cc i325.eq_1 (ab ane.eq_1) (ab anf.eq_1) (ab Zw.eq_1)
def O0:=cw i326.eq_1 (eh ang.eq_1 23 rfl rfl) (ab anh.eq_1)
def auQ:=cc i327.eq_1 (ab ani.eq_1) (ab anj.eq_1) (ab Zx.eq_1)
def IP:=cc i328.eq_1 (ab ank.eq_1) (ab anl.eq_1) (ab Zy.eq_1)
def auR:=cc i329.eq_1 (ab anm.eq_1) (ab ann.eq_1) (ab Zz.eq_1)
def O1:=cw i331.eq_1 (eh ans.eq_1 13 rfl rfl) (ab ant.eq_1)
def auS:=aN i332.eq_1 (eh anu.eq_1 8 rfl rfl)
def O2:=cw i333.eq_1 (ab anv.eq_1) (eh anw.eq_1 5 rfl rfl)
def auT:=aN i334.eq_1 (eh anx.eq_1 8 rfl rfl)
def O3:=cw i335.eq_1 (eh anz.eq_1 16 rfl rfl) (ab anA.eq_1)
def auU:=aN i336.eq_1 (eh anB.eq_1 12 rfl rfl)
def auV:=aN i337.eq_1 (eh anC.eq_1 7 rfl rfl)
def O4:=cw i338.eq_1 (ab anD.eq_1) (ab anE.eq_1)
def O5:=cc i346.eq_1 (ab anF.eq_1) (ab anG.eq_1) (ab ZD.eq_1)
def IR:=e_ i347.eq_1 (ab anH.eq_1) (ab anI.eq_1) (ab anJ.eq_1) (ab ZE.eq_1) (ab anK.eq_1) (ab ZF.eq_1) (ab ZG.eq_1)
def auW:=aN i349.eq_1 (ab anL.eq_1)
def O6:=aN i350.eq_1 (eh anT.eq_1 7 rfl rfl)
def O7:=cc i352.eq_1 (ab anU.eq_1) (ab anV.eq_1) (ab ZM.eq_1)
def O9:=e_ i391.eq_1 (ab aoh.eq_1) (ab aoi.eq_1) (ab aoj.eq_1) (ab aok.eq_1) (ab Z6.eq_1) (ab Z7.eq_1) (ab Z8.eq_1)
def O':=e_ i392.eq_1 (ab aol.eq_1) (ab aom.eq_1) (ab aon.eq_1) (ab aoo.eq_1) (ab Z9.eq_1) (ab Z'.eq_1) (ab Z_.eq_1)
