/- Part of the proof of BatchOnce, for every input. -/
import Derived.ChangeSlices
import Derived.Shelf.SlSortCmp.NoneTotal
import Derived.Shelf.SlMaps.Clone
import Derived.Lib.SortBridge
import Derived.Test.YtobokeclhlbnmaaGreatT4
set_option linter.all false
namespace Go.Abs
def Hp:Value->V
 | .int k n=>.int k n
 |_=>.any
def rz(W:World)(c:Nat):Array Value:=match W.heap[c]? with
 |some (.cells al _ _)=>al
 |_=> #[]
def rf(W:World)(c:Nat):List V:=(rz W c).toList.map Hp
def tO(W:World)(bl:List Nat):H:=⟨T.ofList .e 0 (bl.map fun c=>.cells true (rf W c).length (T.ofList .e 0 (rf W c))),bl.length⟩
def u7(W:World)(bl:List Nat):F:=fun k=>(bl[k]?).map fun c=>⟨c,0,(rz W c).size⟩
def wN(W:World)(bl:List Nat):G:=fun k=>(bl[k]?).map fun c=>.al true (rf W c)
theorem aD_{φ:F}(v:Value):cu φ (Hp v) v:=by
 cases v<;>simp only[Hp]<;>constructor
theorem ar9(W:World)(bl:List Nat)(k:Nat):(tO W bl).get k=(bl[k]?).map fun c=>.cells true (rf W c).length (T.ofList .e 0 (rf W c)):=by
 simp only[H.get,tO,T.uw,Nat.sub_zero,List.length_map]
 by_cases ah:k<bl.length
 .rw[if_pos I];simp
 .rw[if_neg I,List.getElem?_eq_none I];rfl
theorem aLK(W:World)(bl:List Nat):(tO W bl).next=bl.length:=rfl
theorem Ez{W:World}{bl:List Nat}{k:Nat}{B:jq}(h:(tO W bl).get k=some B):∃c,bl[k]? =some c/\k<bl.length/\B= .cells true (rf W c).length (T.ofList .e 0 (rf W c)):=by
 rw[ar9,Option.map_eq_some_iff]at h
 obtain⟨c,af,rfl⟩:=h
 exact⟨c,af,(List.getElem?_eq_some_iff.1 af).1,rfl⟩
theorem aGS{W:World}{bl:List Nat}(gO:bl.Nodup)(af:∀c∈bl,∃al e eI,W.heap[c]? =some (.cells al e eI)):Rel (u7 W bl) (tO W bl) W:=by
 have at_:∀{k c:Nat},bl[k]? =some c->∃e eI,W.heap[c]? =some (.cells (rz W c) e eI):=fun{k c} h=>by
  obtain⟨al,e,eI,J⟩:=af c (List.mem_of_getElem? h)
  exact⟨e,eI,by simp[rz,J]⟩
 refine⟨fun k B h=>?_,fun b B b' lh p ql h ay aB eV e=>?_,fun k p aB=>?_⟩
 .obtain⟨c,J,_,rfl⟩:=Ez h
  obtain⟨e,eI,U⟩:=at_ J
  refine⟨⟨c,0,(rz W c).size⟩,by simp only[u7,J];rfl,by simp[rf],⟨_,e,eI,U,rfl,fun h=>by cases h⟩,fun i aC=>?_⟩
  simp only[rf,List.length_map,Array.length_toList]at aC
  refine⟨(rz W c)[i],⟨_,e,eI,U,by simp[aC]⟩,?_⟩
  have:kE (T.ofList .e 0 (rf W c)) i=Hp (rz W c)[i]:=by
   simp[kE,T.uw,rf,aC]
  rw[this]
  exact aD_ _
 .obtain⟨c,J,tv,_⟩:=Ez h
  obtain⟨c',tb,aLe,_⟩:=Ez ay
  simp only[u7,J,tb,Option.map_some,Option.some.injEq]at aB eV
  subst aB eV
  simp only at e
  subst e
  rw[List.getElem?_eq_some_iff]at J tb
  exact(List.getElem_inj gO).1 (J.2.trans tb.2.symm)
 .simp only[u7,Option.map_eq_some_iff]at aB
  obtain⟨c,J,rfl⟩:=aB
  obtain⟨e,eI,U⟩:=at_ J
  exact⟨(List.getElem?_eq_some_iff.1 J).1,.inl ⟨_,e,eI,U,rfl⟩⟩
theorem ar8(W:World)(bl:List Nat):∀k,¬wZ (u7 W bl) (tO W bl) k:=by
 rintro k ⟨j,B,p,cy,ak,_⟩
 obtain⟨c,_,_,rfl⟩:=Ez cy
 cases ak
theorem ar'(W:World)(bl:List Nat):bm (wN W bl) bl.length:=fun b c h=>by
 simp only[wN,Option.map_eq_some_iff]at h
 obtain⟨_,J,_⟩:=h
 exact(List.getElem?_eq_some_iff.1 J).1
theorem aGT{α:Type}{A:h3 α}{a:α}(W:World)(bl:List Nat)(a3:A.q6 a (fun _=>False) (tO W bl)):Sat A (wN W bl) bl.length a (tO W bl):=by
 refine⟨fun b B h=>?_,rfl,fun b c h=>⟨ar' W bl b c h,?_⟩,_,a3,fun _ h=>h.elim⟩
 .exact(Ez h).choose_spec.2.1
 .simp only[wN,Option.map_eq_some_iff]at h
  obtain⟨c,J,rfl⟩:=h
  refine⟨T.ofList .e 0 (rf W c),by rw[ar9,J];rfl,fun i aC=>?_⟩
  simp[kE,T.uw,aC]
def ys(W:World)(k:IntKind)(v:Value)(len:Nat):Prop:=
 (v= .slice none 0 0/\len=0)\/∃(a:Addr) (cap:Nat) (dt:List Int),v= .slice (some a) len cap/\len<=cap/\dt.length=cap/\(∀i,i<dt.length->W.cell? (a.add i)=some (.int k (dt.getD i 0)))/\∀n∈dt,(Lit.int k n).wf=true
def yD:Value->List Nat
 | .slice (some a) _ cap=>if cap=0 then[]else[a.block]
 |_=>[]
theorem Jl{W:World}{a:Addr}{v:Value}(h:W.cell? a=some v):a.spot=none/\(∃al e eI,W.heap[a.block]? =some (.cells al e eI))/\(rz W a.block)[a.off]? =some v:=by
 unfold World.cell? at h
 split at h
 .rename_i c e eI bd
  split at h
  .simp at h
  .rename_i aa
   exact⟨by simpa using aa,⟨c,e,eI,bd⟩,by simp only[rz,bd];exact h⟩
 .simp at h
theorem ys.kc{W:World}{k:IntKind}{v:Value}{len:Nat}(h:ys W k v len):∀c∈yD v,∃al e eI,W.heap[c]? =some (.cells al e eI):=by
 rcases h with⟨rfl,_⟩|⟨a,cap,dt,rfl,J,U,aq,aK⟩
 .intro c af;simp[yD]at af
 .intro c af
  simp only[yD]at af
  split at af
  .simp at af
  .rename_i a5
   simp only[List.mem_singleton]at af
   subst af
   have:=(Jl (aq 0 I)).2.1
   simpa[Addr.add]using this
theorem ys.words{W:World}{k:IntKind}{v:Value}{len:Nat}(h:ys W k v len){bl:List Nat}(ad:∀c∈yD v,c∈bl):
 ∃u,cu (u7 W bl) u v/\oI u=some (.int .i64 len)/\(0<len->∃b o cap ro cells,u= .slice b o len cap 1/\wN W bl b=some (.al ro cells)/\b<bl.length/\∀j,j<len->∃w,cells[o+j]? =some (.int k w)/\(Lit.int k w).wf=true):=by
 rcases h with⟨rfl,rfl⟩|⟨a,cap,dt,rfl,J,U,aq,aK⟩
 .exact⟨.br,.br,rfl,fun h=>absurd h (Nat.lt_irrefl 0)⟩
 .by_cases jK:cap=0
  .subst jK
   obtain rfl:len=0:=I
   exact⟨.slice 0 0 0 0 1,.yb 0 0 1 a,rfl,fun h=>absurd h (Nat.lt_irrefl 0)⟩
  .have hm:a.block∈bl:=ad _ (by simp[yD,jK])
   obtain⟨b,AU,e⟩:=List.getElem_of_mem hm
   have aw:bl[b]? =some a.block:=by simp[AU,e]
   have aa:a.spot=none:=by simpa[Addr.add]using(Jl (aq 0 I)).1
   have qP:∀i,i<cap->(rz W a.block)[a.off+i]? =some (.int k (dt.getD i 0)):=fun i aC=>by
    have h:=(Jl (aq i I)).2.2
    unfold Addr.add at h
    split at h
    .rename_i cZ;subst cZ;exact h
    .exact h
   obtain⟨gF,FL,aJ8⟩:=a
   simp only at aa qP aw hm e
   subst aa
   have aB:u7 W bl b=some ⟨gF,0,(rz W gF).size⟩:=by simp only[u7,aw];rfl
   have hh:FL+cap<=(rz W gF).size:=by
    have h:=qP (cap-1) I
    have:=(Array.getElem?_eq_some_iff.1 h).1
    omega
   refine⟨.slice b FL len cap 1,?_,rfl,fun _=>⟨b,FL,cap,true,rf W gF,rfl,by simp only[wN,aw];rfl,AU,fun j ax=>⟨dt.getD j 0,?_,?_⟩⟩⟩
   .have:=cu.slice (φ:=u7 W bl) b FL len cap 1 cap ⟨gF,0,(rz W gF).size⟩ aB J (Nat.le_refl _) (by simp only;omega)
    simpa using this
   .have h:=qP j I
    simp only[rf,List.getElem?_map,Array.getElem?_toList,h]
    rfl
   .have xC:j<dt.length:=I
    have:dt.getD j 0=dt[j]:=by simp[List.getD,xC]
    rw[this]
    exact aK _ (List.getElem_mem xC)
theorem QO:∀l:List Nat,∃bl:List Nat,bl.Nodup/\∀c,c∈bl↔c∈l
 |[]=>⟨[],List.nodup_nil,fun _=>Iff.rfl⟩
 |a::l=>by
  obtain⟨bl,J,U⟩:=QO l
  by_cases h:a∈bl
  .refine⟨bl,J,fun c=>⟨fun af=>List.mem_cons_of_mem _ ((U c).1 af),fun af=>?_⟩⟩
   rcases List.mem_cons.1 af with rfl|af
   .exact h
   .exact(U c).2 af
  .exact⟨a::bl,List.nodup_cons.2 ⟨h,J⟩,fun c=>by simp[U]⟩
end Go.Abs
namespace Go.Proofs.Run
open Go Go.Shelf Go.Proofs
def ase:Go.Shelf.Ren:=⟨fun|6=>180|15=>249|14=>248|28=>313|29=>314|20=>305|21=>306|22=>307|23=>308|24=>309|25=>310|26=>311|27=>312|46=>339|47=>340|48=>341|49=>342|50=>343|57=>351|n=>n,fun|22=>24|24=>38|25=>283|3=>3|39=>137|0=>0|53=>170|55=>38|4=>4|46=>324|45=>323|50=>328|5=>5|9=>9|66=>340|70=>344|76=>348|77=>349|n=>n,fun|n=>n⟩
theorem asd:SlLaysF.n6 Tryz.prog ase:={
 mixed:=by kernel_rfl
 f6:=⟨Tryz.f180.name,by decide,Tryz.func180.trans (congrArg some (by kernel_rfl))⟩
 f14:=⟨Tryz.f248.name,by decide,Tryz.func248.trans (congrArg some (by kernel_rfl))⟩
 f15:=Tryz.func249.trans (congrArg some (by kernel_rfl))
 f20:=⟨Tryz.f305.name,by decide,Tryz.func305.trans (congrArg some (by kernel_rfl))⟩
 f21:=⟨Tryz.f306.name,by decide,Tryz.func306.trans (congrArg some (by kernel_rfl))⟩
 f22:=⟨Tryz.f307.name,by decide,Tryz.func307.trans (congrArg some (by kernel_rfl))⟩
 f23:=⟨Tryz.f308.name,by decide,Tryz.func308.trans (congrArg some (by kernel_rfl))⟩
 f24:=⟨Tryz.f309.name,by decide,Tryz.func309.trans (congrArg some (by kernel_rfl))⟩
 f25:=⟨Tryz.f310.name,by decide,Tryz.func310.trans (congrArg some (by kernel_rfl))⟩
 f26:=⟨Tryz.f311.name,by decide,Tryz.func311.trans (congrArg some (by kernel_rfl))⟩
 f27:=⟨Tryz.f312.name,by decide,Tryz.func312.trans (congrArg some (by kernel_rfl))⟩
 f28:=Tryz.func313.trans (congrArg some (by kernel_rfl))
 f29:=Tryz.func314.trans (congrArg some (by kernel_rfl))
 f46:=⟨Tryz.f339.name,by decide,Tryz.func339.trans (congrArg some (by kernel_rfl))⟩
 f47:=Tryz.func340.trans (congrArg some (by kernel_rfl))
 f48:=Tryz.func341.trans (congrArg some (by kernel_rfl))
 f49:=⟨Tryz.f342.name,by decide,Tryz.func342.trans (congrArg some (by kernel_rfl))⟩
 f50:=⟨Tryz.f343.name,by decide,Tryz.func343.trans (congrArg some (by kernel_rfl))⟩
 f57:=⟨Tryz.f351.name,by decide,Tryz.func351.trans (congrArg some (by kernel_rfl))⟩
 t0:=Tryz.underlying0
 a0:=Tryz.isAgg0
 z0:=Tryz.sizeOf0
 v0:=Tryz.zeroValue0
 t3:=Tryz.underlying3
 a3:=Tryz.isAgg3
 z3:=Tryz.sizeOf3
 v3:=Tryz.zeroValue3
 t4:=Tryz.underlying4
 a4:=Tryz.isAgg4
 z4:=Tryz.sizeOf4
 v4:=Tryz.zeroValue4
 t5:=Tryz.underlying5
 a5:=Tryz.isAgg5
 z5:=Tryz.sizeOf5
 v5:=Tryz.zeroValue5
 t9:=Tryz.underlying9
 a9:=Tryz.isAgg9
 z9:=Tryz.sizeOf9
 v9:=Tryz.zeroValue9
 t22:=Tryz.underlying24
 a22:=Tryz.isAgg24
 z22:=Tryz.sizeOf24
 v22:=Tryz.zeroValue24
 a24:=Tryz.isAgg38
 z24:=Tryz.sizeOf38
 t25:=Tryz.underlying283
 a25:=Tryz.isAgg283
 z25:=Tryz.sizeOf283
 v25:=Tryz.zeroValue283
 t39:=Tryz.underlying137
 a39:=Tryz.isAgg137
 z39:=Tryz.sizeOf137
 v39:=Tryz.zeroValue137
 t45:=Tryz.underlying323
 a45:=Tryz.isAgg323
 z45:=Tryz.sizeOf323
 v45:=Tryz.zeroValue323
 t46:=Tryz.underlying324
 a46:=Tryz.isAgg324
 z46:=Tryz.sizeOf324
 v46:=Tryz.zeroValue324
 t50:=Tryz.underlying328
 a50:=Tryz.isAgg328
 z50:=Tryz.sizeOf328
 v50:=Tryz.zeroValue328
 t53:=Tryz.underlying170
 a53:=Tryz.isAgg170
 z53:=Tryz.sizeOf170
 v53:=Tryz.zeroValue170
 t55:=Tryz.underlying38
 a55:=Tryz.isAgg38
 z55:=Tryz.sizeOf38
 v55:=Tryz.zeroValue38
 t66:=Tryz.underlying340
 a66:=Tryz.isAgg340
 z66:=Tryz.sizeOf340
 v66:=Tryz.zeroValue340
 t70:=Tryz.underlying344
 a70:=Tryz.isAgg344
 z70:=Tryz.sizeOf344
 v70:=Tryz.zeroValue344
 t76:=Tryz.underlying348
 a76:=Tryz.isAgg348
 z76:=Tryz.sizeOf348
 v76:=Tryz.zeroValue348
 t77:=Tryz.underlying349
 a77:=Tryz.isAgg349
 z77:=Tryz.sizeOf349
 v77:=Tryz.zeroValue349}
def awO:Go.Shelf.Ren:=⟨fun|5=>330|7=>348|n=>n,fun|23=>88|25=>3|3=>4|4=>4|20=>20|n=>n,fun|n=>n⟩
theorem awN:SlLaysW.n5 Tryz.prog awO:={
 mixed:=by kernel_rfl
 f5:=⟨Tryz.f330.name,by decide,Tryz.func330.trans (congrArg some (by kernel_rfl))⟩
 f7:=Tryz.func348.trans (congrArg some (by kernel_rfl))
 t4:=Tryz.underlying4
 a4:=Tryz.isAgg4
 z4:=Tryz.sizeOf4
 v4:=Tryz.zeroValue4
 t20:=Tryz.underlying20
 a20:=Tryz.isAgg20
 z20:=Tryz.sizeOf20
 v20:=Tryz.zeroValue20
 t23:=Tryz.underlying88
 a23:=Tryz.isAgg88
 z23:=Tryz.sizeOf88
 v23:=Tryz.zeroValue88}
end Go.Proofs.Run
namespace Go.Proofs.Run
open Go Go.Abs Go.Shelf Go.Proofs Go.Lib Go.Sort Go.RowKit
set_option maxRecDepth 100000
theorem asc{φ:F}{σ:H}{w w':World}(h:Rel φ σ w)(keep:∀k,k<w.heap.size->w'.heap[k]? =w.heap[k]?)(aa:w.heap.size<=w'.heap.size)(aD:w'.os=w.os)(aJ:w'.output=w.output):cM φ σ w φ σ w':=by
 refine⟨⟨fun b B cy=>?_,h.inj,fun b p aB=>⟨(h.kY b p aB).1,(h.kY b p aB).2.congr (keep _ (h.kY b p aB).2.lt)⟩⟩,F.le_refl φ,fun k hk _=>keep k hk,fun k hk=>.inl hk,aa,aD,aJ,Nat.le_refl _,fun b ad _=>ad,fun b B cy _=>⟨B,cy,rfl⟩,(cM.refl h).fresh⟩
 obtain⟨p,aB,jf⟩:=h.kc b B cy
 exact⟨p,aB,jf.congr (F.le_refl φ) (keep _ (h.kY b p aB).2.lt)⟩
theorem aDF(x:Int)(w:World):Calls Tryz.prog 250 #[.int .u64 x] w fun e w'=>e= .returned (.bool false)/\w'=w:=by
 go_enter Tryz.func250,Tryz.ntmps250
 go_wp2
 go_ret
 exact⟨aM,rfl⟩
theorem awQ(x y:Int)(w:World):Calls Tryz.prog 181 #[.int .u64 x,.int .u64 y] w fun e w'=>e= .returned (.int .i64 (Lib.compareInt x y))/\w'=w:=by
 have az:=aDF
 go_enter Tryz.func181,Tryz.ntmps181
 go_wp2_with (go_at_call 250;refine(az _ _).mono ?_;rintro e w' ⟨rfl,hw⟩;rw[hw])
 all_goals(go_ret;refine⟨?_,rfl⟩;unfold Lib.compareInt;(repeat' split)<;>first|rfl|(exfalso;omega))
theorem DX(x y:Int):ltOf Lib.compareInt x y=decide (x<y):=by
 unfold ltOf Lib.compareInt
 by_cases h1:x<y
 .simp[h1]
 .by_cases U:y<x<;>simp[h1,U]
theorem aH6:SWO (ltOf Lib.compareInt) where
 irrefl x:=by rw[DX];simp
 trans x y z h1 U:=by rw[DX]at*;simp at*;omega
 ntrans x y z h1 U:=by rw[DX]at*;simp at*;omega
theorem aIr(x y:Int)(h1:ltOf Lib.compareInt x y=false)(U:ltOf Lib.compareInt y x=false):x=y:=by rw[DX]at*;simp at*;omega
theorem ayj:(fun x y:Int=> !ltOf Lib.compareInt y x)=fun x y=>decide (x<=y):=by
 funext x y
 rw[DX]
 by_cases h:x<=y
 .simp[h]
 .have:y<x:=I
  simp[h,this]
theorem axi(args:Array Value)(w:World):(callFunc 180 args).run Tryz.prog w= .ok (.enter 180 args) w:=enters_of Tryz.func180 (by kernel_rfl) rfl args w
theorem axj(args:Array Value)(w:World):(callFunc 330 args).run Tryz.prog w= .ok (.enter 330 args) w:=enters_of Tryz.func330 (by kernel_rfl) rfl args w
theorem asn:∀(vs:List Value) (w:World) (b4 i:Nat),nr w b4 i vs=w.setCells b4 i vs
 |[],_,_,_=>rfl
 |v::vs,w,b4,i=>asn vs _ b4 (i+1)
theorem asb:∀(vs:List Value) (w:World) (b4 i q:Nat),(w.drewN q).setCells b4 i vs=(w.setCells b4 i vs).drewN q
 |[],_,_,_,_=>rfl
 |v::vs,w,b4,i,q=>asb vs (w.setCell ⟨b4,i,none⟩ v) b4 (i+1) q
theorem Sy:∀{l:List V} {ks:List Int},zx l=some ks->l=ks.map (V.int .u64)
 |[],ks,h=>by simp only[zx,Option.some.injEq]at h;subst h;rfl
 |v::l,ks,h=>by
  unfold zx at h
  split at h
  .simp_all
  .rename_i n r e
   obtain⟨rfl,rfl⟩:=e
   obtain⟨k8,ay,rfl⟩:=Option.map_eq_some_iff.1 h
   rw[List.map_cons,<-Sy ay]
  .simp at h
theorem asR{φ:F}:∀{ks:List Int} {l':List Value},eD φ (ks.map (V.int .u64)) l'->l'=ks.map (Value.int .u64)
 |[],_,.nil=>rfl
 |_::_,_,.cons _ _ _ _ h t=>by rw[h.jD,asR t];rfl
theorem Qc{args:List V}{σ:H}{r:ll}(h:CB args σ=some r)(φ:F)(w:World)(args':List Value)(jB:Rel φ σ w)(g1:eD φ args args'):
 (callFunc 330 ⟨args'⟩).run Tryz.prog w= .ok (.enter 330 ⟨args'⟩) w/\Calls Tryz.prog 330 ⟨args'⟩ w (Ch φ σ w r):=by
 refine⟨axj _ w,?_⟩
 unfold CB at h
 split at h
 .rename_i hl
  split at h
  .rename_i es ad
   simp only[Option.some.injEq]at h;subst h
   cases g1 with
   |cons _ v' _ _ hv bg=>
   cases bg
   obtain⟨sJ,wc,rfl⟩:=hv.Ti
   obtain⟨p,aB,a5,dh,fg,hw,he,fs⟩:=jB.kc _ _ ad
   rw[wc]at aB;simp only[Option.some.injEq]at aB;subst aB
   have af:=AnyW.maps_Clone awN sJ.b4 dh fg w hw
   change Calls Tryz.prog 330 _ _ _ at af
   refine af.mono ?_
   rintro e w' ⟨rfl,rfl⟩
   have nH:(w.alloc (.map dh fg)).heap=w.heap.push (.map dh fg):=rfl
   have kH:(w.alloc (.map dh fg)).heap[w.heap.size]? =some (.map dh fg):=by rw[nH];exact Rx
   refine⟨_,_,rfl,cM.new jB (.map dh fg) nH rfl rfl (.map false es) 0 rfl (fun ec mQ=>⟨rfl,dh,fg,kH,he.mono mQ,fun _=>fs rfl⟩) (.inr (.inl ⟨dh,fg,kH⟩)),?_⟩
   exact .map _ ⟨w.heap.size,0,0⟩ (by simp[F.put])
  .simp at h
 .simp at h
theorem aHS{args:List V}{σ:H}{r:ll}(h:E0 args σ=some r)(φ:F)(w:World)(args':List Value)(jB:Rel φ σ w)(g1:eD φ args args'):
 (callFunc 180 ⟨args'⟩).run Tryz.prog w= .ok (.enter 180 ⟨args'⟩) w/\Calls Tryz.prog 180 ⟨args'⟩ w (Ch φ σ w r):=by
 refine⟨axi _ w,?_⟩
 have none_:∀(p:Option Addr) (cap:Nat) (dw:Value),Calls Tryz.prog 180 #[.slice p 0 cap,dw] w fun e w'=>e= .returned (.tuple #[])/\w'=w:=fun p cap dw=>
  AnyF.slices_SortFunc_none (P:=Tryz.prog) (ρ:=ase) {asd with} p cap dw w
 unfold E0 at h
 split at h
 .simp only[Option.some.injEq]at h;subst h
  cases g1 with
  |cons _ v' _ _ hv bg=>
  cases bg with
  |cons _ cn _ _ aV bg=>
  cases bg
  rw[hv.sQ]
  refine(none_ none 0 cn).mono ?_
  rintro e w' ⟨rfl,rfl⟩
  exact⟨_,φ,rfl,cM.refl jB,.bN _ _ .nil⟩
 .rename_i b o len cap
  split at h
  .rename_i hlen
   split at h
   .rename_i l aA
    split at h
    .rename_i ks g3
     obtain rfl:=Sy g3
     obtain⟨σ',fs,rfl⟩:=Option.map_eq_some_iff.1 h
     cases g1 with
     |cons _ v' _ _ hv bg=>
     cases bg with
     |cons _ cn _ _ aV bg=>
     cases bg
     obtain⟨a',c',rfl,a3,af⟩:=aV.JQ
     cases a3;cases af
     obtain⟨aAi,p,aB,Gi,l',p',qP⟩:=jB.l2 aA
     have e0:ks.length=len:=by simpa using aAi
     have aD:=asR p'
     subst aD
     have A':((ks.mergeSort (· <= ·)).map (V.int .u64)).length=len:=by simp[e0]
     have gC:eD φ ((ks.mergeSort (· <= ·)).map (V.int .u64)) ((ks.mergeSort (· <= ·)).map (Value.int .u64)):=eD.Tj _ _ (fun n=>.int _ n) _
     obtain⟨ql,eV,fC,_⟩:=cM.store jB fs gC
     rw[aB]at eV;simp only[Option.some.injEq]at eV;subst eV
     by_cases a5:len=0
     .subst a5
      obtain rfl:ks=[]:=List.length_eq_zero_iff.1 e0
      have fC:cM φ σ w φ σ' w:=by simpa[nr]using fC
      have bB:∃Mf gG,v'= .slice Mf 0 gG:=by
       rcases hv.pd with⟨_,c2,_,_,_,_,e⟩|⟨_,_,a,e⟩
       .exact⟨_,_,e⟩
       .exact⟨_,_,e⟩
      obtain⟨Mf,gG,rfl⟩:=bB
      refine(none_ Mf gG _).mono ?_
      rintro e w' ⟨rfl,rfl⟩
      exact⟨_,φ,rfl,fC,.bN _ _ .nil⟩
     .have bB:∃gG,v'= .slice (some ⟨p.b4,p.off+o,none⟩) len gG:=by
       rcases hv.pd with⟨iC,c2,gQ,_,_,_,e⟩|⟨cZ,_,a,e⟩
       .rw[aB]at gQ;simp only[Option.some.injEq]at gQ;subst gQ;exact⟨_,e⟩
       .exact absurd cZ a5
      obtain⟨gG,rfl⟩:=bB
      have hg:∀j,w.frozen? ⟨p.b4,j,none⟩=false:=fun j=>by
       unfold H.pe at fs
       split at fs
       .rename_i m c ad
        obtain⟨q,av,_,⟨al,t,eI,iM,_,r8⟩,_⟩:=jB.kc _ _ ad
        rw[aB]at av;simp only[Option.some.injEq]at av;subst av
        have:=r8 rfl;subst this
        simp[World.frozen?,iM]
       .simp at fs
      have hh:ks.toArray.size=len:=by simpa using e0
      have hH:Holds (Value.int .u64) w p.b4 (p.off+o) ks.toArray:=fun j ax=>by
       have xC:j<ks.length:=by simpa using ax
       refine⟨?_,hg _⟩
       have:=qP j (.int .u64 ks[j]) (by simp[xC])
       rw[this.cell,getElem!_pos ks.toArray j ax]
       simp
      have vE:=Any.slices_SortFunc_total asd (Value.int .u64) (fun _=>rfl) Lib.compareInt aH6 181 #[] p.b4 (p.off+o) gG ks.toArray w (enters_of Tryz.func181 (by kernel_rfl) rfl)
       (fun m os aKd _ x y=>(awQ x y _).mono fun _ _ ⟨he,av⟩=>⟨he,0, #[],by rw[av,grow_empty];rfl⟩) hH (jB.kY b p aB).2.lt I aIr
      rw[ayj,hh]at vE
      change Calls Tryz.prog 180 _ _ _ at vE
      refine vE.mono ?_
      rintro e w' ⟨rfl,n,os,rfl⟩
      refine⟨_,φ,rfl,fC.trans (asc fC.rel ?_ ?_ ?_ ?_),.bN _ _ .nil⟩
      all_goals(unfold sortWorld;rw[sorted_world _ w p.b4 _ n ks.toArray _ os hH aM,asb,<-asn])
      .intro k hk
       show((nr w p.b4 (p.off+o) _).heap++os)[k]? =_
       rw[Array.getElem?_append_left hk]
      .show _<=((nr w p.b4 (p.off+o) _).heap++os).size
       simp
      .rfl
      .rfl
    .simp at h
   .simp at h
  .simp at h
 .simp at h
end Go.Proofs.Run
namespace Go.Proofs.Run
open Go Go.Abs
set_option maxRecDepth 100000
def Nn:Go.Abs.Call:=fun f args σ=>if f=330 then CB args σ else none
theorem aHN:rj Tryz.prog aQ Nn:=by
 intro f args σ r h φ w args' jB _ g1
 unfold Nn at h
 split at h
 .rename_i aV;subst aV;exact Qc h φ w args' jB g1
 .simp at h
def SD(r:Option ll):Bool:=match r with
 |some (.ret (.bool true) _)=>true
 |_=>false
theorem aB7:SD (ur (nj oi) Nn jn.get 3000 60 6 [] ⟨.e,0⟩)=true:=by kernel_rfl
theorem aB5(φ:F)(σ:H)(w:World)(jB:Rel φ σ w):
 (callFunc 6 ⟨[]⟩).run Tryz.prog w= .ok (.enter 6 ⟨[]⟩) w/\Calls Tryz.prog 6 ⟨[]⟩ w (Ch φ σ w (.ret (.bool true) σ)):=by
 have ak:=aB7
 unfold SD at ak
 split at ak
 .rename_i σ1 af
  have a5:Rel (fun _=>none) ⟨.e,0⟩ w:=⟨fun b B h=>by simp[H.get,T.get]at h,fun b B _ _ _ _ h=>by simp[H.get,T.get]at h,fun b p h=>by simp at h⟩
  have e5:nZ (fun _=>none) aQ:=fun g aw=>by simp[aQ]at aw
  obtain⟨J,U⟩:=P6 (by kernel_rfl) (LL To) aHN (asu ast QW) 3000 60 6 [] ⟨.e,0⟩ _ af (fun _=>none) w [] a5 e5 .nil
  refine⟨J,U.mono ?_⟩
  rintro e w' ⟨v',cz,rfl,aa,hv⟩
  have Tz:∀k,¬wZ (fun _=>none) (⟨.e,0⟩:H) k:=by
   rintro k ⟨j,B,p,cy,_⟩;simp[H.get,T.get]at cy
  cases hv
  exact⟨_,φ,rfl,asc jB (fun k ah=>aa.j4 k ah (Tz k)) aa.size aa.os aa.out,.bool _⟩
 .simp at ak
theorem aHM:rj Tryz.prog aQ yc:=by
 intro f args σ r h φ w args' jB _ g1
 unfold yc at h
 split at h
 .rename_i aV;subst aV;exact Qc h φ w args' jB g1
 .split at h
  .rename_i aV;subst aV;exact aHS h φ w args' jB g1
  .split at h
   .rename_i aV;subst aV
    unfold Lx at h
    split at h
    .simp only[Option.some.injEq]at h;subst h
     cases g1
     exact aB5 φ σ w jB
    .simp at h
   .simp at h
theorem av_{f:FuncId}{args:List V}{σ:H}{Q:V->H->Prop}(h:mZ bA f args σ Q){φ:F}{w:World}{args':List Value}(jB:Rel φ σ w)(aw:nZ φ aQ)(g1:eD φ args args'):
 Calls Tryz.prog f ⟨args'⟩ w fun e w'=>∃v σ' v' cz,Q v σ'/\e= .returned v'/\cM φ σ w cz σ' w'/\cu cz v v':=by
 obtain⟨v,σ',⟨bR,d0,af⟩,av⟩:=h
 obtain⟨_,U⟩:=P6 (by kernel_rfl) (LL To) aHM (asu ast QW) bR d0 f args σ _ (af bR (Nat.le_refl _) d0 (Nat.le_refl _)) φ w args' jB aw g1
 refine U.mono ?_
 rintro e w' ⟨v',cz,rfl,aa,hv⟩
 exact⟨v,σ',v',cz,av,rfl,aa,hv⟩
