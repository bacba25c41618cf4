/- Part of the proof of BatchOnce, for every input. -/
import Derived.Test.YtobokeclhlbnmaaGreatB15
set_option linter.all false
namespace Go.Proofs.Run
open Go Go.Abs
def mH(l:List gY)(h:Int):Option (List Int):=(l.find? (fun r=>decide (r.h=h))).map (·.ws)
def aE.ws(a:aE)(h:Int):Option (List Int):=mH a.m.live h
theorem F2(h:Int):mH [] h=none:=rfl
theorem uv(r:gY)(l:List gY)(h:Int):mH (r::l) h=if r.h=h then some r.ws else mH l h:=by
 simp only[mH,List.find?_cons]
 by_cases e:r.h=h<;>simp[e]
theorem axS{l:List gY}{h:Int}(az:∀r∈l,r.h≠h):mH l h=none:=by
 induction l with
 |nil=>rfl
 |cons r l c0=>rw[uv,if_neg (az r aM)];exact c0 fun x aj=>az x (by simp[aj])
theorem JR{l:List gY}{h:Int}{ws:List Int}(aV:mH l h=some ws):∃r∈l,r.h=h/\r.ws=ws:=by
 induction l with
 |nil=>simp[F2]at aV
 |cons r l c0=>
  rw[uv]at aV
  split at aV
  .exact⟨r,aM, ‹_›,Option.some.inj aV⟩
  .obtain⟨x,aj,J,U⟩:=c0 aV
   exact⟨x,by simp[aj],J,U⟩
theorem axP(l l':List gY)(h:Int):mH (l++l') h=(mH l h).or (mH l' h):=by
 induction l with
 |nil=>simp[F2]
 |cons r l c0=>rw[List.cons_append,uv,uv,c0];split<;>simp
theorem axQ(l:List gY)(k h:Int):mH (l.filter fun x=>x.h≠k) h=if h=k then none else mH l h:=by
 induction l with
 |nil=>simp[F2]
 |cons r l c0=>
  rw[List.filter_cons]
  by_cases e:r.h=k
  .rw[if_neg (by simp[e]),c0,uv]
   by_cases aJ:h=k
   .simp[aJ]
   .rw[if_neg aJ,if_neg aJ,if_neg (fun ay=>aJ (by rw[<-ay,e]))]
  .rw[if_pos (by simp[e]),uv,c0,uv]
   by_cases aJ:h=k
   .rw[if_neg (fun ay=>e (by rw[ay,aJ])),if_pos aJ];simp[aJ]
   .simp[aJ]
theorem axR(l:List gY)(f:gY->gY)(aV:∀r,(f r).h=r.h)(F:Int->List Int->List Int)(J0:∀r,(f r).ws=F r.h r.ws)(h:Int):mH (l.map f) h=(mH l h).map (F h):=by
 induction l with
 |nil=>rfl
 |cons r l c0=>
  rw[List.map_cons,uv,uv,c0,aV,J0]
  split
  .next e=>rw[e];rfl
  .rfl
theorem lO{a:aE}{h i w:Int}{l:List Int}(aA:a.ws h=some l)(aC:0<=i)(hw:l[i.toNat]? =some w):a.at_ h i w:=by
 obtain⟨r,ak,J,U⟩:=JR aA
 exact⟨aC,r,ak,J,by rw[U];exact hw⟩
theorem Ke{a:aE}{h:Int}{l:List Int}(aA:a.ws h=some l):a.m.has h:=by
 obtain⟨r,ak,J,U⟩:=JR aA
 exact⟨r,ak,J⟩
theorem aMk{m:ck}{h:Int}(bd:m.has h):∃l,mH m.live h=some l:=by
 obtain⟨r,ak,rfl⟩:=bd
 cases aV:mH m.live r.h with
 |some l=>exact⟨l,rfl⟩
 |none=>
  exfalso
  simp only[mH,Option.map_eq_none_iff,List.find?_eq_none]at aV
  exact aV r ak aM
theorem aMl(a:aE)(h:Int):a.tick.ws h=a.ws h:=rfl
theorem oo(a:aE)(h i v ay:Int):(a.put h i v).ws ay=(a.ws ay).map (fun l=>if ay=h then l.set i.toNat v else l):=by
 simp only[aE.ws,aE.put,ck.put,ck.tick]
 rw[axR _ _ (fun r=>by split<;>rfl) (fun k l=>if k=h then l.set i.toNat v else l) (fun r=>by split<;>rfl)]
theorem E8{a:aE}(az:∀r∈a.m.live,r.h<=a.m.made)(k b:Nat)(h:Int):(a.make k b).ws h=if h=a.m.made+1 then some (List.replicate k 0)else a.ws h:=by
 simp only[aE.ws,aE.make,ck.mk',axP,uv,F2]
 by_cases e:h=a.m.made+1
 .subst e
  rw[axS (fun r ak e=>by have:=az r ak;omega)]
  simp
 .rw[if_neg (fun ee=>e ee.symm),if_neg e];simp
theorem QV(m:ck)(h ay:Int):mH (m.jm h).live ay=if ay=h then none else mH m.live ay:=by
 simp only[ck.jm]
 cases aV:m.live.find? (fun r=>decide (r.h=h))with
 |none=>
  simp only
  split
  .next e=>subst e;simp[mH,aV]
  .rfl
 |some r=>
  have:=List.find?_some aV
  simp only[decide_eq_true_eq]at this
  simp only[ck.mW,this]
  exact axQ _ _ _
theorem aJa(a:aE)(h ay:Int):(a.free h).ws ay=if ay=h then none else a.ws ay:=QV _ _ _
theorem axT(q:List gm)(m:ck)(h:Int):mH (m.cX q).live h=if∃w∈q,w.ws=[]/\w.h=h then none else mH m.live h:=by
 induction q generalizing m with
 |nil=>simp[ck.cX]
 |cons w q c0=>
  have e:m.cX (w::q)=ck.cX (if w.ws=[]then m.jm w.h else m) q:=rfl
  rw[e,c0]
  by_cases J:∃x∈q,x.ws=[]/\x.h=h
  .rw[if_pos J,if_pos]
   obtain⟨x,aj,U⟩:=J
   exact⟨x,by simp[aj],U⟩
  .rw[if_neg J]
   by_cases U:w.ws=[]
   .rw[if_pos U,QV]
    by_cases aq:h=w.h
    .rw[if_pos aq,if_pos ⟨w,aM,U,aq.symm⟩]
    .rw[if_neg aq,if_neg]
     rintro⟨x,aj,xT⟩
     rcases List.mem_cons.1 aj with rfl|aj
     .exact aq xT.2.symm
     .exact J ⟨x,aj,xT⟩
   .rw[if_neg U,if_neg]
    rintro⟨x,aj,xT⟩
    rcases List.mem_cons.1 aj with rfl|aj
    .exact U xT.1
    .exact J ⟨x,aj,xT⟩
theorem asW(a:aE)(bC:V)(h:Int):(a.cX bC).ws h=if∃w∈a.queue,w.ws=[]/\w.h=h then none else a.ws h:=axT _ _ _
theorem aJc(a:aE)(h:Int)(b:Nat)(bC:V)(fl:List Nat)(ay:Int):(a.push h b bC fl).ws ay=a.ws ay:=rfl
theorem aJb(a:aE)(x h:Int):(a.out x).ws h=a.ws h:=rfl
theorem aMi(a:aE)(x h:Int):(a.enter x).ws h=a.ws h:=rfl
theorem SZ(m:ck)(h:Int):∀r∈(m.jm h).live,r∈m.live:=by
 simp only[ck.jm]
 split
 .intro r ak;simp only[ck.mW]at ak;exact(List.mem_filter.1 ak).1
 .exact fun _ h=>h
theorem D0(m:ck)(h:Int):(m.jm h).made=m.made/\(m.jm h).ry=m.ry:=by
 simp only[ck.jm];split<;>exact⟨rfl,rfl⟩
theorem tz(q:List gm)(m:ck):(∀r∈(m.cX q).live,r∈m.live)/\(m.cX q).made=m.made/\(m.cX q).ry=m.ry:=by
 induction q generalizing m with
 |nil=>exact⟨fun _ h=>h,rfl,rfl⟩
 |cons w q c0=>
  have e:m.cX (w::q)=ck.cX (if w.ws=[]then m.jm w.h else m) q:=rfl
  rw[e]
  obtain⟨J,U,aq⟩:=c0 (if w.ws=[]then m.jm w.h else m)
  by_cases hw:w.ws=[]
  .rw[if_pos hw]at J U aq |-
   exact⟨fun r ak=>SZ _ _ r (J r ak),by rw[U,(D0 _ _).1],by rw[aq,(D0 _ _).2]⟩
  .rw[if_neg hw]at J U aq |-
   exact⟨J,U,aq⟩
structure h5(a:aE):Prop where
 le:∀r∈a.m.live,0<r.h/\r.h<=a.m.made
 q1:0<=a.m.made
 dc:a.m.ry=0
 u2:(a.queue.map (·.h)).Nodup
 tL:∀w∈a.queue,w.ws≠[]/\∀x∈w.ws,x∈a.inside
 u3:∀w∈a.queue,w.ws.Nodup
 u0:∀w∈a.queue,0<w.h/\w.h<=a.m.made
 de:a.inside.Nodup
theorem h5.aMj{a:aE}(h:h5 a){k:Int}{l:List Int}(aA:a.ws k=some l):0<k/\k<=a.m.made:=by
 obtain⟨r,ak,rfl,_⟩:=JR aA
 exact h.le r ak
theorem h5.tick{a:aE}(h:h5 a):h5 a.tick:=⟨h.le,h.q1,h.dc,h.u2,h.tL,h.u3,h.u0,h.de⟩
theorem h5.put{a:aE}(h:h5 a)(k i v:Int):h5 (a.put k i v):=by
 refine⟨fun r ak=>?_,h.q1,h.dc,h.u2,h.tL,h.u3,h.u0,h.de⟩
 simp only[aE.put,ck.put,ck.tick,List.mem_map]at ak
 obtain⟨x,aj,rfl⟩:=ak
 have:=h.le x aj
 split<;>exact this
theorem h5.make{a:aE}(h:h5 a)(k b:Nat):h5 (a.make k b):=by
 refine⟨fun r ak=>?_,by have:=h.q1;show 0<=a.m.made+1;omega,h.dc,h.u2,h.tL,h.u3,fun w hw=>by have:=h.u0 w hw;show 0<w.h/\w.h<=a.m.made+1;omega,h.de⟩
 simp only[aE.make,ck.mk',List.mem_append,List.mem_singleton]at ak |-
 have hm:=h.q1
 rcases ak with ak|rfl
 .have:=h.le r ak;omega
 .exact⟨by show 0<a.m.made+1;omega,Int.le_refl _⟩
theorem h5.free{a:aE}(h:h5 a)(k:Int):h5 (a.free k):=by
 have hm:=D0 a.m k
 refine⟨fun r ak=>?_,by show 0<=(a.m.jm k).made;rw[hm.1];exact h.q1,by show(a.m.jm k).ry=0;rw[hm.2];exact h.dc,h.u2,h.tL,h.u3,fun w hw=>by show 0<w.h/\w.h<=(a.m.jm k).made;rw[hm.1];exact h.u0 w hw,h.de⟩
 have:=h.le r (SZ _ _ r ak)
 show 0<r.h/\r.h<=(a.m.jm k).made
 rw[hm.1];exact this
theorem h5.enter{a:aE}(h:h5 a){x:Int}(aj:x∉a.inside):h5 (a.enter x):=
 ⟨h.le,h.q1,h.dc,h.u2,fun w hw=>⟨(h.tL w hw).1,fun y ai=>List.mem_append.2 (.inl ((h.tL w hw).2 y ai))⟩,h.u3,h.u0,by
  rw[aE.enter,List.nodup_append]
  refine⟨h.de,aM,fun y ai z bB=>?_⟩
  simp only[List.mem_singleton]at bB
  rintro rfl;exact aj (bB▸ai)⟩
theorem h5.cX{a:aE}(le:∀r∈a.m.live,0<r.h/\r.h<=a.m.made)(q1:0<=a.m.made)(dc:a.m.ry=0)(u2:(a.queue.map (·.h)).Nodup)(tL:∀w∈a.queue,∀x∈w.ws,x∈a.inside)(u3:∀w∈a.queue,w.ws.Nodup)(u0:∀w∈a.queue,0<w.h/\w.h<=a.m.made)(de:a.inside.Nodup)(bC:V):h5 (a.cX bC):=by
 obtain⟨J,U,aq⟩:=tz a.queue a.m
 refine⟨fun r ak=>?_,?_,?_,?_,?_,?_,?_,de⟩
 .have:=le r (J r ak)
  show 0<r.h/\r.h<=(a.m.cX a.queue).made
  rw[U];exact this
 .show 0<=(a.m.cX a.queue).made
  rw[U];exact q1
 .show(a.m.cX a.queue).ry=0
  rw[aq];exact dc
 .exact u2.sublist (List.Sublist.map _ List.filter_sublist)
 .intro w hw
  simp only[aE.cX,stay,List.mem_filter]at hw
  refine⟨fun e=>?_,tL w hw.1⟩
  have:=hw.2
  rw[e]at this;simp at this
 .intro w hw
  simp only[aE.cX,stay,List.mem_filter]at hw
  exact u3 w hw.1
 .intro w hw
  simp only[aE.cX,stay,List.mem_filter]at hw
  show 0<w.h/\w.h<=(a.m.cX a.queue).made
  rw[U];exact u0 w hw.1
theorem h5.push{a:aE}(h:h5 a){k:Int}(ah:∀w∈a.queue,w.h≠k)(eJ:0<k/\k<=a.m.made)(b:Nat)(bC:V)(fl:List Nat)(c_:V):h5 ((a.push k b bC fl).cX c_):=by
 refine h5.cX (a:=a.push k b bC fl) h.le h.q1 h.dc ?_ ?_ ?_ ?_ h.de _
 .simp only[aE.push,List.map_append,List.map_cons,List.map_nil,List.nodup_append]
  refine⟨h.u2,aM,fun x aj y ai=>?_⟩
  simp only[List.mem_singleton]at ai
  simp only[List.mem_map]at aj
  obtain⟨w,hw,rfl⟩:=aj
  rw[ai];exact ah w hw
 .intro w hw x aj
  simp only[aE.push,List.mem_append,List.mem_singleton]at hw
  rcases hw with hw|rfl
  .exact(h.tL w hw).2 x aj
  .exact aj
 .intro w hw
  simp only[aE.push,List.mem_append,List.mem_singleton]at hw
  rcases hw with hw|rfl
  .exact h.u3 w hw
  .exact h.de
 .intro w hw
  simp only[aE.push,List.mem_append,List.mem_singleton]at hw
  rcases hw with hw|rfl
  .exact h.u0 w hw
  .exact eJ
theorem h5.out{a:aE}(h:h5 a)(x:Int)(bC:V):h5 ((a.out x).cX bC):=by
 refine h5.cX (a:=a.out x) h.le h.q1 h.dc ?_ ?_ ?_ ?_ (h.de.erase x) _
 .have:(a.out x).queue.map (·.h)=a.queue.map (·.h):=by
   simp only[aE.out,List.map_map];apply List.map_congr_left;intro w _;simp[k0]
  rw[this];exact h.u2
 .intro w hw y ai
  simp only[aE.out,List.mem_map]at hw
  obtain⟨w',hb,rfl⟩:=hw
  have J:=(h.tL w' hb).2
  have U:=h.u3 w' hb
  simp only[k0]at ai
  simp only[aE.out]
  rw[U.mem_erase_iff]at ai
  rw[h.de.mem_erase_iff]
  exact⟨ai.1,J y ai.2⟩
 .intro w hw
  simp only[aE.out,List.mem_map]at hw
  obtain⟨w',hb,rfl⟩:=hw
  exact(h.u3 w' hb).erase x
 .intro w hw
  simp only[aE.out,List.mem_map]at hw
  obtain⟨w',hb,rfl⟩:=hw
  exact h.u0 w' hb
theorem Mh:∀(n:Nat) (l:List Int),l.Nodup->(∀x∈l,0<x/\x<=n)->l.length<=n
 |0,l,_,h=>by
  cases l with
  |nil=>simp
  |cons x l=>have:=h x aM;omega
 |n+1,l,az,h=>by
  have J:=Mh n (l.erase ((n+1:Nat):Int)) (az.erase _) fun x aj=>by
   rw[az.mem_erase_iff]at aj
   have:=h x aj.2
   have U:=aj.1
   omega
  by_cases hm:((n+1:Nat):Int)∈l
  .rw[List.length_erase_of_mem hm]at J;omega
  .rw[List.erase_of_not_mem hm]at J;omega
theorem h5.oj{a:aE}(h:h5 a){m:Nat}(hm:a.m.made<=m):a.queue.length<=m:=by
 have:=Mh m (a.queue.map (·.h)) h.u2 fun x aj=>by
  simp only[List.mem_map]at aj
  obtain⟨w,hw,rfl⟩:=aj
  have:=h.u0 w hw;omega
 simpa using this
theorem h5.quiet{a:aE}(h:h5 a)(aC:a.inside=[]):a.queue=[]:=by
 cases av:a.queue with
 |nil=>rfl
 |cons w q=>
  exfalso
  obtain⟨J,U⟩:=h.tL w (by rw[av];simp)
  cases hw:w.ws with
  |nil=>exact J hw
  |cons x l=>have:=U x (by rw[hw];simp);rw[aC]at this;simp at this
theorem NP{a:aE}(h:h5 a){k:Int}(b:Nat)(bC:V)(fl:List Nat)(c_:V){ay:Int}(av:∀w∈a.queue,w.h≠ay)(ah:ay≠k):((a.push k b bC fl).cX c_).ws ay=a.ws ay:=by
 rw[asW,aJc,if_neg]
 rintro⟨w,hw,_,rfl⟩
 simp only[aE.push,List.mem_append,List.mem_singleton]at hw
 rcases hw with hw|rfl
 .exact av w hw rfl
 .exact ah rfl
theorem asV{a:aE}{x:Int}(bC:V){ay:Int}(av:∀w∈a.queue,w.h≠ay):((a.out x).cX bC).ws ay=a.ws ay:=by
 rw[asW,aJb,if_neg]
 rintro⟨w,hw,_,rfl⟩
 simp only[aE.out,List.mem_map]at hw
 obtain⟨w',hb,rfl⟩:=hw
 exact av w' hb rfl
theorem adg{a:aE}{k:Int}(b:Nat)(bC:V)(fl:List Nat)(c_:V):∀w∈((a.push k b bC fl).cX c_).queue,w.h=k\/∃w'∈a.queue,w'.h=w.h:=by
 intro w hw
 simp only[aE.cX,stay,List.mem_filter,aE.push,List.mem_append,List.mem_singleton]at hw
 rcases hw.1 with h|h
 .exact .inr ⟨w,h,rfl⟩
 .exact .inl (by rw[h])
theorem adf{a:aE}{x:Int}(bC:V):∀w∈((a.out x).cX bC).queue,∃w'∈a.queue,w'.h=w.h:=by
 intro w hw
 simp only[aE.cX,stay,List.mem_filter,aE.out,List.mem_map]at hw
 obtain⟨⟨w',J,U⟩,_⟩:=hw
 exact⟨w',J,by rw[<-U];rfl⟩
theorem sU{w:Int}(h:dZ w):IntKind.wrap .u64 w=w:=wrap_u64 h.1 h.2
theorem yE{w:Int}(h:dZ w):(BitVec.ofInt 64 w).toNat=w.toNat:=by
 rw[BitVec.toNat_ofInt]
 obtain⟨J,U⟩:=h
 have:w% ((2 ^ 64:Nat):Int)=w:=Int.emod_eq_of_lt J I
 rw[this]
theorem sg(x:BitVec 64):dZ (x.toNat:Int):=⟨I,by have:=x.isLt;omega⟩
theorem FK{a b:Int}(a3:dZ a)(ad:dZ b):gy a b=((a.toNat&&& b.toNat:Nat):Int):=by
 unfold gy
 rw[sU (sg _),BitVec.toNat_and,yE a3,yE ad]
theorem T9{a b:Int}(a3:dZ a)(ad:dZ b):BM a b=((a.toNat |||b.toNat:Nat):Int):=by
 unfold BM
 rw[sU (sg _),BitVec.toNat_or,yE a3,yE ad]
theorem Ie{a b:Int}(a3:dZ a)(ad:dZ b):yl a b=((a.toNat ^^^ b.toNat:Nat):Int):=by
 unfold yl
 rw[sU (sg _),BitVec.toNat_xor,yE a3,yE ad]
theorem avg(a b:Int):dZ (gy a b):=by
 unfold gy;rw[sU (sg _)];exact sg _
theorem aLD(a b:Int):dZ (BM a b):=by
 unfold BM;rw[sU (sg _)];exact sg _
theorem as1(a b:Int):dZ (yl a b):=by
 unfold yl;rw[sU (sg _)];exact sg _
theorem avf(a b:Int):dZ (xc a b):=by
 unfold xc;rw[sU (sg _)];exact sg _
theorem I5{a:Int}(a3:dZ a):gy a 18446744073709551615=a:=by
 rw[FK a3 ⟨by decide,by decide⟩]
 have U:=a3.2
 have J:=a3.1
 have:a.toNat&&& (18446744073709551615:Int).toNat=a.toNat:=by
  show a.toNat&&& (2 ^ 64-1)=a.toNat
  rw[Nat.and_two_pow_sub_one_eq_mod]
  exact Nat.mod_eq_of_lt I
 rw[this];omega
theorem ave{a:Int}(a3:dZ a):xc a 18446744073709551615=0:=by
 unfold xc
 have e:(BitVec.ofInt 64 a&&& ~~~ BitVec.ofInt 64 18446744073709551615)=0#64:=by
  show BitVec.ofInt 64 a&&& ~~~ BitVec.ofInt 64 18446744073709551615=0#64
  rw[show ~~~ BitVec.ofInt 64 18446744073709551615=0#64 by decide,BitVec.and_zero]
 rw[e];rfl
theorem aIJ{w v:Int}(hw:dZ w)(hv:dZ v):rb w 18446744073709551615 v=v:=by
 unfold rb
 rw[ave hw,I5 hv,T9 ⟨by decide,by decide⟩ hv]
 have:=hv.1
 simp;omega
theorem xm{w v:Int}(hw:dZ w)(hv:dZ v):fy w 18446744073709551615 v=IntKind.wrap .u64 (w+v):=by
 unfold fy
 rw[I5 hw,I5 hv,aIJ hw]
 .rfl
 .unfold FH;exact vd _
theorem I6{w:Int}(hw:dZ w):gy w 4294967295=w%4294967296:=by
 rw[FK hw ⟨by decide,by decide⟩]
 have:w.toNat&&& (4294967295:Int).toNat=w.toNat%4294967296:=Nat.and_two_pow_sub_one_eq_mod _ 32
 rw[this]
 have:=hw.1
 omega
theorem S6{x y:Nat}:((x ^^^ y)&&& 4294967295=0)↔x%4294967296=y%4294967296:=by
 have e:(x ^^^ y)&&& 4294967295=(x ^^^ y)%4294967296:=Nat.and_two_pow_sub_one_eq_mod _ 32
 rw[e,show(x ^^^ y)%4294967296=(x%4294967296) ^^^ (y%4294967296)from Nat.xor_mod_two_pow (n:=32)]
 constructor
 .intro h
  have:=congrArg (· ^^^ (y%4294967296)) h
  simpa[Nat.xor_assoc]using this
 .intro h;rw[h,Nat.xor_self]
theorem aIK{w v:Int}(hw:dZ w)(hv:dZ v):rb w 4294967295 v=w-w%4294967296+v%4294967296:=by
 unfold rb
 rw[T9 (avf _ _) (avg _ _),I6 hv]
 have Bj:=hv.1
 have aJ:(v%4294967296).toNat=v.toNat%4294967296:=I
 have aD:xc w 4294967295=((w.toNat / 4294967296*4294967296:Nat):Int):=by
  unfold xc
  rw[sU (sg _),BitVec.toNat_and,yE hw]
  congr 1
  apply Nat.eq_of_testBit_eq
  intro i
  rw[Nat.testBit_and,show w.toNat / 4294967296*4294967296=(w.toNat / 2 ^ 32) <<< 32 by rw[Nat.shiftLeft_eq],Nat.testBit_shiftLeft,Nat.testBit_div_two_pow]
  have ad:(~~~ BitVec.ofInt 64 4294967295).toNat.testBit i=(decide (32<=i)&&decide (i<64)):=by
   rw[show(~~~ BitVec.ofInt 64 4294967295).toNat=4294967295 <<< 32 by decide,Nat.testBit_shiftLeft]
   by_cases h:32<=i
   .simp only[h,decide_true,Bool.true_and]
    rw[show(4294967295:Nat)=2 ^ 32-1 by decide,Nat.testBit_two_pow_sub_one]
    simp;omega
   .simp[h]
  rw[ad]
  by_cases h:32<=i
  .simp only[h,decide_true,Bool.true_and]
   rw[show i-32+32=i by omega]
   by_cases U:i<64
   .simp[U]
   .rw[Nat.testBit_lt_two_pow (x:=w.toNat) (i:=i)]
    .simp
    .have:w.toNat<2 ^ 64:=by have:=hw.2;omega
     exact Nat.lt_of_lt_of_le this (Nat.pow_le_pow_right (by decide) I)
  .simp[h]
 rw[aD,aJ]
 have bP:((w.toNat / 4294967296*4294967296:Nat):Int).toNat=(w.toNat / 4294967296) <<< 32:=by rw[Nat.shiftLeft_eq];rfl
 rw[bP,<-Nat.shiftLeft_add_eq_or_of_lt (by have:=Nat.mod_lt v.toNat (show 0<4294967296 by decide);omega),Nat.shiftLeft_eq]
 have:=hw.1
 omega
theorem awc{w o v:Int}(hw:dZ w)(au:dZ o)(hv:dZ v)(h:w%4294967296=o%4294967296):o1 w 4294967295 o v=w-w%4294967296+v%4294967296:=by
 unfold o1
 have J:=hw.1
 have U:=au.1
 rw[if_pos,aIK hw hv]
 rw[Ie hw au,FK ⟨I,by have:=as1 w o;rw[Ie hw au]at this;exact this.2⟩ ⟨by decide,by decide⟩]
 have:=(S6 (x:=w.toNat) (y:=o.toNat)).2 I
 simpa using this
theorem awd{w o v:Int}(hw:dZ w)(au:dZ o)(h:w%4294967296≠o%4294967296):o1 w 4294967295 o v=w:=by
 unfold o1
 have J:=hw.1
 have U:=au.1
 rw[if_neg]
 rw[Ie hw au,FK ⟨I,by have:=as1 w o;rw[Ie hw au]at this;exact this.2⟩ ⟨by decide,by decide⟩]
 intro e
 have:=(S6 (x:=w.toNat) (y:=o.toNat)).1 (by simpa using e)
 omega
section
inductive gk where
 |none
 |wait (k t:Int)
 |hold (k:Int)
def gk.T(bM k:Int):gk->Option Int
 | .none=>Option.none
 | .wait a9 t=>if a9=k then some t else Option.none
 | .hold a9=>if a9=k then some bM else Option.none
def bT{β:Type}(f:Nat->β)(j:Nat)(x:β):Nat->β:=fun i=>if i=j then x else f i
theorem ek{β:Type}(f:Nat->β)(j:Nat)(x:β):bT f j x j=x:=if_pos rfl
theorem gL{β:Type}(f:Nat->β){i j:Nat}(x:β)(h:i≠j):bT f j x i=f i:=if_neg h
structure kU(k cY bM:Int)(cd:Nat->gk):Prop where
 le:0<=bM/\bM<=cY
 rg:∀j,j<5->∀t,(cd j).T bM k=some t->bM<=t/\t<cY
 inj:∀i j,i<5->j<5->∀t,(cd i).T bM k=some t->(cd j).T bM k=some t->i=j
 FV:∀t,bM<=t->t<cY->∃j,j<5/\(cd j).T bM k=some t
variable{k cY bM:Int}{cd S0:Nat->gk}{j:Nat}
theorem kU.congr(h:kU k cY bM cd)(he:∀i,i<5->(S0 i).T bM k=(cd i).T bM k):kU k cY bM S0:=
 ⟨h.le,fun i aC t bg=>h.rg i aC t (by rw[<-he i aC];exact bg),fun a b a3 ad t J U=>h.inj a b a3 ad t (by rw[<-he a a3];exact J) (by rw[<-he b ad];exact U),fun t J U=>by
  obtain⟨i,aC,e⟩:=h.FV t J U
  exact⟨i,aC,by rw[he i aC];exact e⟩⟩
theorem kU.draw(h:kU k cY bM cd)(ax:j<5)(aA:cd j= .none):kU k (cY+1) bM (bT cd j (.wait k cY)):=by
 have hle:=h.le
 have e:∀i,i≠j->(bT cd j (.wait k cY) i).T bM k=(cd i).T bM k:=fun i aC=>by rw[gL _ _ aC]
 have sk:(bT cd j (.wait k cY) j).T bM k=some cY:=by rw[ek];simp[gk.T]
 refine⟨I,fun i aC t bg=>?_,fun a b a3 ad t J U=>?_,fun t J U=>?_⟩
 .by_cases fq:i=j
  .subst fq;rw[sk]at bg;simp at bg;omega
  .rw[e i fq]at bg;have:=h.rg i aC t bg;omega
 .by_cases xu:a=j
  .by_cases vJ:b=j
   .rw[xu,vJ]
   .subst xu;rw[sk]at J;rw[e b vJ]at U;simp at J;have:=h.rg b ad t U;omega
  .by_cases vJ:b=j
   .subst vJ;rw[sk]at U;rw[e a xu]at J;simp at U;have:=h.rg a a3 t J;omega
   .rw[e a xu]at J;rw[e b vJ]at U;exact h.inj a b a3 ad t J U
 .by_cases bg:t=cY
  .exact⟨j,ax,by rw[sk,bg]⟩
  .obtain⟨i,aC,aJ⟩:=h.FV t J I
   refine⟨i,aC,?_⟩
   have:i≠j:=fun bP=>by rw[bP,aA]at aJ;simp[gk.T]at aJ
   rw[e i this];exact aJ
theorem kU.go(h:kU k cY bM cd)(aA:cd j= .wait k bM):kU k cY bM (bT cd j (.hold k)):=
 h.congr fun i _=>by
  by_cases fq:i=j
  .subst fq;rw[ek,aA];simp[gk.T]
  .rw[gL _ _ fq]
theorem kU.leave(h:kU k cY bM cd)(ax:j<5)(aA:cd j= .hold k):kU k cY (bM+1) (bT cd j .none):=by
 have hle:=h.le
 have sk:(cd j).T bM k=some bM:=by rw[aA];simp[gk.T]
 have aKR:=h.rg j ax bM sk
 have e:∀i,i<5->i≠j->∀t,(cd i).T (bM+1) k=some t->(cd i).T bM k=some t:=fun i aC fq t bg=>by
  cases ah:cd i with
  |none=>rw[ah]at bg;simp[gk.T]at bg
  |wait a9 t'=>rw[ah]at bg;exact bg
  |hold a9=>
   rw[ah]at bg
   simp only[gk.T]at bg
   split at bg
   .next aD=>
    exact absurd (h.inj i j aC ax bM (by rw[ah];simp[gk.T,aD]) sk) fq
   .simp at bg
 refine⟨I,fun i aC t bg=>?_,fun a b a3 ad t J U=>?_,fun t J U=>?_⟩
 .by_cases fq:i=j
  .subst fq;rw[ek]at bg;simp[gk.T]at bg
  .rw[gL _ _ fq]at bg
   have J:=e i aC fq t bg
   have U:=h.rg i aC t J
   have:t≠bM:=fun bP=>fq (h.inj i j aC ax bM (by rw[bP]at J;exact J) sk)
   omega
 .by_cases xu:a=j
  .subst xu;rw[ek]at J;simp[gk.T]at J
  .by_cases vJ:b=j
   .subst vJ;rw[ek]at U;simp[gk.T]at U
   .rw[gL _ _ xu]at J;rw[gL _ _ vJ]at U
    exact h.inj a b a3 ad t (e a a3 xu t J) (e b ad vJ t U)
 .obtain⟨i,aC,aJ⟩:=h.FV t I U
  have fq:i≠j:=fun bP=>by rw[bP,sk]at aJ;simp at aJ;omega
  refine⟨i,aC,?_⟩
  rw[gL _ _ fq]
  cases ah:cd i with
  |none=>rw[ah]at aJ;simp[gk.T]at aJ
  |wait a9 t'=>rw[ah]at aJ;exact aJ
  |hold a9=>
   rw[ah]at aJ
   simp only[gk.T]at aJ
   split at aJ
   .simp at aJ;omega
   .simp at aJ
theorem kU.other(h:kU k cY bM cd){x:gk}(J:(cd j).T bM k=Option.none)(U:x.T bM k=Option.none):kU k cY bM (bT cd j x):=
 h.congr fun i _=>by
  by_cases fq:i=j
  .subst fq;rw[ek,J,U]
  .rw[gL _ _ fq]
theorem kU.first(h:kU k cY bM cd){t:Int}(ax:j<5)(aA:cd j= .wait k t):∃i,i<5/\(cd i= .wait k bM\/cd i= .hold k):=by
 have J:=h.rg j ax t (by rw[aA];simp[gk.T])
 obtain⟨i,aC,e⟩:=h.FV bM (Int.le_refl _) I
 refine⟨i,aC,?_⟩
 cases ah:cd i with
 |none=>rw[ah]at e;simp[gk.T]at e
 |wait a9 t'=>
  rw[ah]at e
  simp only[gk.T]at e
  split at e
  .next aD=>simp at e;left;rw[aD,e]
  .simp at e
 |hold a9=>
  rw[ah]at e
  simp only[gk.T]at e
  split at e
  .next aD=>right;rw[aD]
  .simp at e
theorem kU.H4(h:kU k cY bM cd){i:Nat}(aC:i<5)(ax:j<5)(J:cd i= .hold k)(U:cd j= .hold k):i=j:=
 h.inj i j aC ax bM (by rw[J];simp[gk.T]) (by rw[U];simp[gk.T])
theorem kU.init(k:Int):kU k 0 0 (fun _=>.none):=
 ⟨I,fun j _ t h=>by simp[gk.T]at h,fun i j _ _ t h _=>by simp[gk.T]at h,fun t J U=>I⟩
end
section
structure dP where
 h:Int
 key:Int
 val:Int
def di:List dP->Int->Int
 |[],nx=>nx
 |e::_,_=>e.h
abbrev w6:=Int->Option (List Int)
def sd(M:w6):List dP->Int->Prop
 |[],_=>True
 |e::r,nx=>M e.h=some [di r nx,e.key,e.val]/\sd M r nx
theorem uC(l r:List dP)(nx:Int):di (l++r) nx=di l (di r nx):=by cases l<;>rfl
theorem ya{M:w6}:∀{l r:List dP} {nx:Int},sd M (l++r) nx↔sd M l (di r nx)/\sd M r nx
 |[],r,nx=>by simp[sd]
 |e::l,r,nx=>by
  simp only[List.cons_append,sd,ya (l:=l),uC,and_assoc]
theorem sd.congr{M fE:w6}:∀{l:List dP} {nx:Int},sd M l nx->(∀e∈l,fE e.h=M e.h)->sd fE l nx
 |[],_,_,_=>trivial
 |e::r,nx,h,he=>⟨by rw[he e aM];exact h.1,h.2.congr fun x aj=>he x (by simp[aj])⟩
theorem sd.at_{M:w6}:∀{l:List dP} {nx:Int} {e:dP},sd M l nx->e∈l->∃x,M e.h=some [x,e.key,e.val]
 |[],_,_,_,h=>by simp at h
 |ee::r,nx,e,h,he=>by
  rcases List.mem_cons.1 he with rfl|he
  .exact⟨_,h.1⟩
  .exact h.2.at_ he
def addr(R k:Int)(pre:List dP):Int×Int:=
 match pre.getLast? with
 |none=>(R,bW k+2)
 |some e=>(e.h,0)
inductive vp where
 |none
 |root
 |room (k:Int)
 |lay (j:Nat)
 |queue
structure kA where
 a_:Int->List dP
 own:Int->vp
 cY:Int->Int
 bM:Int->Int
 L:Int
 H:Int
 mY:List Int
structure Oc(p:ew)(z:kA):Prop where
 len:z.mY.length=(2+3*p.B).toNat
 bZ:z.mY[0]? =some (z.L+4294967296*z.H)
 jY:∃c,z.mY[1]? =some c/\dZ c
 cY:∀k,0<=k->k<p.B->z.mY[(bW k).toNat]? =some (z.cY k)
 bM:∀k,0<=k->k<p.B->z.mY[(bW k+1).toNat]? =some (z.bM k)
 aH:∀k,0<=k->k<p.B->z.mY[(bW k+2).toNat]? =some (di (z.a_ k) 0)
structure ei(p:ew)(a:aE)(z:kA):Prop where
 az:h5 a
 cy:1<=p.B/\p.B<1000
 an:a.m.made<1000000
 root:a.ws p.R=some z.mY
 en:Oc p z
 jF:∀k,sd a.ws (z.a_ k) 0
 de:∀k,((z.a_ k).map (·.h)).Nodup
 et:z.own p.R= .root
 e7:∀k,∀e∈z.a_ k,z.own e.h= .room k
 ia:∀w∈a.queue,z.own w.h= .queue
 of:∀h,z.own h≠ .none->0<h/\h<=a.m.made
 out:∀k,¬(0<=k/\k<p.B)->z.a_ k=[]
def ez{β:Type}(f:Int->β)(j:Int)(x:β):Int->β:=fun i=>if i=j then x else f i
theorem h'{β:Type}(f:Int->β)(j:Int)(x:β):ez f j x j=x:=if_pos rfl
theorem dT{β:Type}(f:Int->β){i j:Int}(x:β)(h:i≠j):ez f j x i=f i:=if_neg h
section
variable{p:ew}{a:aE}{z:kA}{k:Int}
theorem ei.n3(h:ei p a z){e:dP}(he:e∈z.a_ k):0<e.h/\e.h<1000000:=by
 have:=h.of e.h (by rw[h.e7 k e he];simp)
 have:=h.an;omega
theorem ei.room(h:ei p a z)(af:z.a_ k≠[]):0<=k/\k<p.B:=by
 by_cases ah:0<=k/\k<p.B
 .exact ah
 .exact absurd (h.out k ah) af
theorem ei.tick(h:ei p a z):ei p a.tick z:=⟨h.az.tick,h.cy,h.an,h.root,h.en,h.jF,h.de,h.et,h.e7,h.ia,h.of,h.out⟩
theorem ei.aeI(h:ei p a z)(a5:0<=k)(J:k<p.B):a.at_ p.R (bW k) (z.cY k):=lO h.root (by unfold bW;omega) (h.en.cY k a5 J)
theorem ei.HN(h:ei p a z)(a5:0<=k)(J:k<p.B):a.at_ p.R (bW k+1) (z.bM k):=lO h.root (by unfold bW;omega) (h.en.bM k a5 J)
theorem ei.HM(h:ei p a z)(a5:0<=k)(J:k<p.B):a.at_ p.R (bW k+2) (di (z.a_ k) 0):=lO h.root (by unfold bW;omega) (h.en.aH k a5 J)
theorem ei.HL(h:ei p a z):a.at_ p.R 0 (z.L+4294967296*z.H):=lO h.root I h.en.bZ
theorem ei.aeG(h:ei p a z):∃c,a.at_ p.R 1 c/\dZ c:=by
 obtain⟨c,J,U⟩:=h.en.jY
 exact⟨c,lO h.root I J,U⟩
theorem ei.u6(h:ei p a z)(a5:0<=k)(J:k<p.B){pre post:List dP}(af:z.a_ k=pre++post):a.at_ (addr p.R k pre).1 (addr p.R k pre).2 (di post 0):=by
 cases aA:pre.getLast? with
 |none=>
  have:pre=[]:=List.getLast?_eq_none_iff.1 aA
  subst this
  simp only[addr,List.getLast?_nil]
  rw[List.nil_append]at af
  rw[<-af];exact h.HM a5 J
 |some e=>
  obtain⟨l,rfl⟩:=List.getLast?_eq_some_iff.1 aA
  have aa:=h.jF k
  rw[af,List.append_assoc,ya]at aa
  simp only[addr,aA]
  exact lO aa.2.1 I rfl
theorem ei.x9(h:ei p a z){e:dP}(he:e∈z.a_ k):∃x,a.ws e.h=some [x,e.key,e.val]:=(h.jF k).at_ he
theorem ei.rd_key(h:ei p a z){e:dP}(he:e∈z.a_ k):a.at_ e.h 1 e.key:=by
 obtain⟨x,aj⟩:=h.x9 he
 exact lO aj I rfl
theorem ei.rd_val(h:ei p a z){e:dP}(he:e∈z.a_ k):a.at_ e.h 2 e.val:=by
 obtain⟨x,aj⟩:=h.x9 he
 exact lO aj I rfl
theorem ei.tK(h:ei p a z){i v:Int}{z':kA}(J:z'.a_=z.a_)(U:z'.own=z.own)(aq:z'.mY=z.mY.set i.toNat v)(aK:Oc p z'):ei p (a.put p.R i v) z':=by
 have bp:∀ay,z.own ay≠ .root->ay≠p.R:=fun ay au e=>au (by rw[e];exact h.et)
 refine⟨h.az.put _ _ _,h.cy,h.an,by rw[oo,h.root,aq];simp,aK,fun k=>?_,by rw[J];exact h.de,by rw[U];exact h.et,by rw[J,U];exact h.e7,by rw[U];exact h.ia,by rw[U];exact h.of,by rw[J];exact h.out⟩
 rw[J]
 refine(h.jF k).congr fun e he=>?_
 rw[oo]
 have:=bp e.h (by rw[h.e7 k e he];simp)
 simp[this]
theorem hI{a:aE}{h i v ay:Int}(bp:ay≠h):(a.put h i v).ws ay=a.ws ay:=by
 rw[oo];simp[bp]
theorem ei.Uj(h:ei p a z)(a5:0<=k)(J:k<p.B)(v:Int):ei p (a.put p.R (bW k) v) {z with cY:=ez z.cY k v,mY:=z.mY.set (bW k).toNat v}:=by
 have aA:=h.en.len
 refine h.tK rfl rfl rfl ⟨by simpa using aA,?_,?_,fun a9 U aq=>?_,fun a9 U aq=>?_,fun a9 U aq=>?_⟩
 .simp only[List.getElem?_set_ne (show(bW k).toNat≠0 by unfold bW;omega)];exact h.en.bZ
 .simp only[List.getElem?_set_ne (show(bW k).toNat≠1 by unfold bW;omega)];exact h.en.jY
 .by_cases e:a9=k
  .subst e;simp only[h'];rw[List.getElem?_set_self];rw[aA];unfold bW;omega
  .simp only[dT _ _ e,List.getElem?_set_ne (show(bW k).toNat≠(bW a9).toNat by unfold bW;omega)];exact h.en.cY a9 U aq
 .simp only[List.getElem?_set_ne (show(bW k).toNat≠(bW a9+1).toNat by unfold bW;omega)];exact h.en.bM a9 U aq
 .simp only[List.getElem?_set_ne (show(bW k).toNat≠(bW a9+2).toNat by unfold bW;omega)];exact h.en.aH a9 U aq
theorem ei.Uk(h:ei p a z)(a5:0<=k)(J:k<p.B)(v:Int):ei p (a.put p.R (bW k+1) v) {z with bM:=ez z.bM k v,mY:=z.mY.set (bW k+1).toNat v}:=by
 have aA:=h.en.len
 refine h.tK rfl rfl rfl ⟨by simpa using aA,?_,?_,fun a9 U aq=>?_,fun a9 U aq=>?_,fun a9 U aq=>?_⟩
 .simp only[List.getElem?_set_ne (show(bW k+1).toNat≠0 by unfold bW;omega)];exact h.en.bZ
 .simp only[List.getElem?_set_ne (show(bW k+1).toNat≠1 by unfold bW;omega)];exact h.en.jY
 .simp only[List.getElem?_set_ne (show(bW k+1).toNat≠(bW a9).toNat by unfold bW;omega)];exact h.en.cY a9 U aq
 .by_cases e:a9=k
  .subst e;simp only[h'];rw[List.getElem?_set_self];rw[aA];unfold bW;omega
  .simp only[dT _ _ e,List.getElem?_set_ne (show(bW k+1).toNat≠(bW a9+1).toNat by unfold bW;omega)];exact h.en.bM a9 U aq
 .simp only[List.getElem?_set_ne (show(bW k+1).toNat≠(bW a9+2).toNat by unfold bW;omega)];exact h.en.aH a9 U aq
theorem ei.Hu(h:ei p a z)(iF An:Int):ei p (a.put p.R 0 (iF+4294967296*An)) {z with L:=iF,H:=An,mY:=z.mY.set 0 (iF+4294967296*An)}:=by
 have aA:=h.en.len
 refine h.tK rfl rfl rfl ⟨by simpa using aA,?_,?_,fun a9 U aq=>?_,fun a9 U aq=>?_,fun a9 U aq=>?_⟩
 .simp only[];rw[List.getElem?_set_self];rw[aA];have:=h.cy;omega
 .simp only[List.getElem?_set_ne (I:0≠1)];exact h.en.jY
 .simp only[List.getElem?_set_ne (show 0≠(bW a9).toNat by unfold bW;omega)];exact h.en.cY a9 U aq
 .simp only[List.getElem?_set_ne (show 0≠(bW a9+1).toNat by unfold bW;omega)];exact h.en.bM a9 U aq
 .simp only[List.getElem?_set_ne (show 0≠(bW a9+2).toNat by unfold bW;omega)];exact h.en.aH a9 U aq
theorem ei.Ui(h:ei p a z){c:Int}(af:dZ c):ei p (a.put p.R 1 c) {z with mY:=z.mY.set 1 c}:=by
 have aA:=h.en.len
 refine h.tK rfl rfl rfl ⟨by simpa using aA,?_,?_,fun a9 U aq=>?_,fun a9 U aq=>?_,fun a9 U aq=>?_⟩
 .simp only[List.getElem?_set_ne (I:1≠0)];exact h.en.bZ
 .refine⟨c,?_,af⟩;simp only[];rw[List.getElem?_set_self];rw[aA];have:=h.cy;omega
 .simp only[List.getElem?_set_ne (show 1≠(bW a9).toNat by unfold bW;omega)];exact h.en.cY a9 U aq
 .simp only[List.getElem?_set_ne (show 1≠(bW a9+1).toNat by unfold bW;omega)];exact h.en.bM a9 U aq
 .simp only[List.getElem?_set_ne (show 1≠(bW a9+2).toNat by unfold bW;omega)];exact h.en.aH a9 U aq
theorem ei.Mk(h:ei p a z){bd i v:Int}{j:Nat}(au:z.own bd= .lay j):ei p (a.put bd i v) z:=by
 have bp:∀ay,z.own ay≠ .lay j->ay≠bd:=fun ay J e=>J (by rw[e];exact au)
 refine⟨h.az.put _ _ _,h.cy,h.an,by rw[hI (bp _ (by rw[h.et];simp))];exact h.root,h.en,fun k=>(h.jF k).congr fun e he=>hI (bp _ (by rw[h.e7 k e he];simp)),h.de,h.et,h.e7,h.ia,h.of,h.out⟩
theorem ei.make(h:ei p a z)(hm:a.m.made+1<1000000)(j b:Nat):ei p (a.make 3 b) {z with own:=ez z.own (a.m.made+1) (.lay j)}/\(a.make 3 b).ws (a.m.made+1)=some [0,0,0]/\(∀ay,ay≠a.m.made+1->(a.make 3 b).ws ay=a.ws ay)/\z.own (a.m.made+1)= .none:=by
 have hle:∀r∈a.m.live,r.h<=a.m.made:=fun r ak=>(h.az.le r ak).2
 have e:∀ay,ay≠a.m.made+1->(a.make 3 b).ws ay=a.ws ay:=fun ay bp=>by rw[E8 hle,if_neg bp]
 have lG:z.own (a.m.made+1)= .none:=by
  cases au:z.own (a.m.made+1)with
  |none=>rfl
  |root=>have:=(h.of _ (by rw[au];simp)).2;omega
  |room k=>have:=(h.of _ (by rw[au];simp)).2;omega
  |lay j=>have:=(h.of _ (by rw[au];simp)).2;omega
  |queue=>have:=(h.of _ (by rw[au];simp)).2;omega
 have bp:∀ay,z.own ay≠ .none->ay≠a.m.made+1:=fun ay J e=>J (by rw[e];exact lG)
 refine⟨⟨h.az.make 3 b,h.cy,hm,by rw[e _ (bp _ (by rw[h.et];simp))];exact h.root,⟨h.en.len,h.en.bZ,h.en.jY,h.en.cY,h.en.bM,h.en.aH⟩,fun k=>(h.jF k).congr fun x aj=>e _ (bp _ (by rw[h.e7 k x aj];simp)),h.de,?_,fun k x aj=>?_,fun w hw=>?_,fun ay au=>?_,h.out⟩,by rw[E8 hle,if_pos rfl];rfl,e,lG⟩
 .simp only[dT _ _ (bp _ (by rw[h.et];simp))];exact h.et
 .simp only[dT _ _ (bp _ (by rw[h.e7 k x aj];simp))];exact h.e7 k x aj
 .have:(a.make 3 b).queue=a.queue:=rfl
  rw[this]at hw
  simp only[dT _ _ (bp _ (by rw[h.ia w hw];simp))];exact h.ia w hw
 .show 0<ay/\ay<=a.m.made+1
  have:=h.az.q1
  by_cases aJ:ay=a.m.made+1
  .omega
  .simp only[dT _ _ aJ]at au
   have:=h.of ay au;omega
theorem ei.free(h:ei p a z){bd:Int}{j:Nat}(au:z.own bd= .lay j):ei p (a.free bd) {z with own:=ez z.own bd .none}/\(∀ay,ay≠bd->(a.free bd).ws ay=a.ws ay):=by
 have e:∀ay,ay≠bd->(a.free bd).ws ay=a.ws ay:=fun ay bp=>by rw[aJa,if_neg bp]
 have bp:∀ay,z.own ay≠ .lay j->ay≠bd:=fun ay J e=>J (by rw[e];exact au)
 have hm:=D0 a.m bd
 refine⟨⟨h.az.free bd,h.cy,by show(a.m.jm bd).made<1000000;rw[hm.1];exact h.an,by rw[e _ (bp _ (by rw[h.et];simp))];exact h.root,⟨h.en.len,h.en.bZ,h.en.jY,h.en.cY,h.en.bM,h.en.aH⟩,fun k=>(h.jF k).congr fun x aj=>e _ (bp _ (by rw[h.e7 k x aj];simp)),h.de,?_,fun k x aj=>?_,fun w hw=>?_,fun ay au=>?_,h.out⟩,e⟩
 .simp only[dT _ _ (bp _ (by rw[h.et];simp))];exact h.et
 .simp only[dT _ _ (bp _ (by rw[h.e7 k x aj];simp))];exact h.e7 k x aj
 .simp only[dT _ _ (bp _ (by rw[h.ia w hw];simp))];exact h.ia w hw
 .show 0<ay/\ay<=(a.m.jm bd).made
  rw[hm.1]
  by_cases aJ:ay=bd
  .subst aJ;simp only[h']at au;exact absurd rfl au
  .simp only[dT _ _ aJ]at au
   exact h.of ay au
end
end
