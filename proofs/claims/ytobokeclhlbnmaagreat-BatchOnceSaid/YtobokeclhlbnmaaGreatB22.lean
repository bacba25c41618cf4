/- Part of the proof of BatchOnce, for every input. -/
import Derived.Test.YtobokeclhlbnmaaGreatB21
set_option linter.all false
namespace Go.Proofs.Run
open Go Go.Abs
section
variable{p:ff}{an ar:Nat}{a8:List Int}{a:aE}{z:l8}{s:Nat->ju}{vs:Nat->List Int}{aX:List Int}{aS N:Int}{r:Nat->Nat}{j:Nat}{k:Int}
theorem DQ{c d:Nat}(h:c<=d):hR p c<=hR p d:=by
 unfold hR
 have:=Nat.mul_le_mul_right (2*p.E.toNat+10) h
 omega
theorem aCG{c:Nat}(h:0<c):hR p c=hR p (c-1)+(2*p.E.toNat+10):=by
 obtain⟨d,rfl⟩:∃d,c=d+1:=⟨c-1,I⟩
 unfold hR
 rw[Nat.add_sub_cancel,Nat.add_mul];omega
theorem rW{x:ju}(h:∀l,x≠ .lay l):iN x=0:=by
 cases x<;>first|rfl|exact absurd rfl (h _)
theorem aDr(h:fe p an ar a8 a z s vs aX aS N r)(ax:j<5)(aF:N<1000000000){v:pk}(aa:s j= .b_ k v):v.u.cJ=false/\pB p a {v.u with bH:=false} v.aY v.ks (fun a' bj dV k8=>
 (bj.bH=false/\bj.cJ=false/\s0 p an ar a8 z s vs aX aS N r j a' (.b_ k ⟨bj,dV,k8⟩) (vs j))\/
 (bj.bH=true/\bj.cJ=true/\k8.length<=64/\¬fj z (s j)/\pj p an ar a8 s vs aX aS N r j a' (.stay k ⟨bj,dV,k8⟩ 0 k8.length) (vs j))):=by
 obtain⟨u,aY,ks⟩:=v
 have lE:=h.loc j ax
 rw[aa]at lE
 obtain⟨rfl,aH,aB⟩:=lE
 refine⟨aH,?_⟩
 simp only at aH aB |-
 have mJ:=h.pc
 obtain⟨⟨uy,ih⟩,⟨Bf,rN,j3⟩,cL,h8⟩:=h.x2 aF
 have hlen:=h.len ax
 have GJ:=h.lL.length_eq
 have st:=(Hb (s j)).1
 cases aY with
 |done=>exact aB.elim
 |draw=>
  simp only at aB
  simp only[pB]
  have cH:¬fj z (s j):=by rw[aa];simp[fj]
  refine⟨_,h.hm.aeF,.inl ⟨by trivial,aH,?_⟩⟩
  rw[cL]
  have aQ:=h.aQ.draw (k:=0) (x:=dn (.b_ 0 ⟨{u with bH:=false},.wait z.cY,ks⟩) (vs j)) ax I (by rw[aa];rfl) (tC _ _) h.iZ.1 (by rw[nM];rfl) (tC _ _) (fun v=>by rw[aa];exact Int.le_refl _)
  rw[nM,DZ]at aQ
  refine .dec cH (h.step ax (z':={z with cY:=z.cY+1}) (h.hm.tK rfl rfl rfl) ⟨rfl,rfl⟩ h.lL aQ (.inl ⟨rfl,rfl,rfl⟩) (fun ay i aC au=>⟨au,hI fun e=>?_⟩) (rx:=hR p p.E.toNat+2*p.E.toNat+3) ⟨rfl,aH,aB.1,rfl⟩ ?_ (.inr aM) I)
  .rw[e,h.hm.et]at au;simp at au
  .rw[rW aM];show a.m.made+0<=_;omega
 |wait bK=>
  simp only at aB
  simp only[pB]
  refine⟨_,h.hm.HK,fun e=>?_,fun e=>?_⟩
  .have hw:fj z (s j):=by rw[aa];exact e
   refine .inl ⟨by trivial,aH,s0.wait hw (h.wait ax ?_ ⟨rfl,aH,aB⟩ ?_ (.inr aM)) e⟩
   .rw[aa];rfl
   .exact st
  .have cH:¬fj z (s j):=by rw[aa];exact fun h=>h e
   have aQ:=h.aQ.go (k:=0) (x:=dn (.b_ 0 ⟨{u with bH:=false,bk:=p.R,bo:=2},.load,ks⟩) (vs j)) ax (by rw[aa,nM,e];rfl) (tC _ _) rfl rfl rfl rfl (fun v=>by rw[aa];exact Int.le_refl _)
   have aA:=aQ.qi ax (k:=0) (by rw[ek];rfl)
   rw[ek,nM,GJ]at aA
   have pu:(dn (.b_ 0 ⟨{u with bH:=false,bk:=p.R,bo:=2},.load,ks⟩) (vs j)).cS=0:=rfl
   rw[pu]at aA
   have n8:=DQ (p:=p) (I:z.a_.length<=p.E.toNat)
   refine .inl ⟨by trivial,aH,.dec cH (h.step ax h.hm.tick ⟨rfl,rfl⟩ h.lL aQ (.inl ⟨rfl,rfl,rfl⟩) (fun ay i aC au=>⟨au,rfl⟩) (rx:=hR p z.a_.length+2*z.a_.length+2) ⟨rfl,aH,[],z.a_,rfl,rfl,aB.1,rfl⟩ ?_ (.inr aM) I)⟩
   rw[rW aM];show a.m.made+0<=_;omega
 |load=>
  simp only at aB
  simp only[pB]
  have cH:¬fj z (s j):=by rw[aa];simp[fj]
  have m_:=hlen (by rw[aa];rfl)
  rw[aa]at m_
  have m_:(z.a_.length:Int)+0=z.L:=m_
  obtain⟨pre,post,af,fh,g3,ak⟩:=aB
  have hB:=h.hm.u6 af
  rw[<-fh]at hB
  refine⟨_,hB,fun e=>?_,fun e=>?_⟩
  .rcases G7 h.hm af with⟨aD,aJ⟩|⟨aD,l,aJ,bP,g0,iX⟩
   .subst aD
    rw[List.append_nil]at af
    have oc:(q' ks).length=z.a_.length:=by rw[No,g3,af,List.length_map]
    refine⟨by rw[No]at oc;omega,.inr ⟨by trivial,by trivial,I,cH,?_⟩⟩
    refine h.bK ax (rx:=hR p z.a_.length) (by rw[aa];rfl) ⟨rfl,?_,oc.symm,⟨by show(q' ks).length=_;omega,by show 0+(q' ks).length<=64;omega⟩,by rw[oc]⟩ (by rw[rW aM];exact st) (.inr aM) I
    rw[List.drop_zero,af,<-g3]
    exact List.mergeSort_perm _ _
   .exact absurd (bP▸e) g0
  .rcases G7 h.hm af with⟨aD,aJ⟩|⟨aD,l,aJ,bP,g0,iX⟩
   .exact absurd aJ e
   .rw[iX]
    subst aJ
    simp only[List.length_cons]at ak
    exact .inl ⟨by trivial,aH,.dec cH (h.bK ax (rx:=hR p z.a_.length+2*l.length+3) (by rw[aa];rfl) ⟨rfl,aH,pre,aD,l,af,rfl,g3,rfl⟩ (by rw[rW aM];exact st) (.inr aM) I)⟩
 |key=>
  simp only at aB
  simp only[pB]
  have cH:¬fj z (s j):=by rw[aa];simp[fj]
  have m_:=hlen (by rw[aa];rfl)
  rw[aa]at m_
  have m_:(z.a_.length:Int)+0=z.L:=m_
  obtain⟨pre,e,post,af,gN,g3,ak⟩:=aB
  have hJ:e∈z.a_:=by rw[af];simp
  have e0:ks.length<=z.a_.length:=by rw[g3,af,List.length_map,List.length_append];omega
  rw[gN]
  exact⟨I,_,h.hm.rd_key hJ,.inl ⟨by trivial,aH,.dec cH (h.bK ax (rx:=hR p z.a_.length+2*post.length+2) (by rw[aa];rfl) ⟨rfl,aH,pre++[e],post,by rw[af];simp,by rw[DS],by rw[g3];simp,rfl⟩ (by rw[rW aM];exact st) (.inr aM) I)⟩⟩
theorem aDd(h:fe p an ar a8 a z s vs aX aS N r)(ax:j<5)(aF:N<1000000000){v:pk}{u:c3}{aY:pR}{i c:Nat}(aa:s j= .take k (.take v u aY) i c):ra p a {u with bH:=false} aY (fun a' bj dV=>
 (bj.bH=true->bj.cJ=false)/\
 ((bj.cJ=false/\pj p an ar a8 s vs aX aS N r j a' (.take k (.take v bj dV) i c) (if bj.bH then vs j++[LT.val (.take v bj dV)]else vs j))\/
 (bj.cJ=true/\0<c/\pj p an ar a8 s vs aX aS N r j a' (.stay k v (i+1) (c-1)) (vs j)))):=by
 have lE:=h.loc j ax
 rw[aa]at lE
 obtain⟨rfl,⟨e0,oB,jK⟩,aH,aB⟩:=lE
 have mJ:=h.pc
 obtain⟨⟨uy,ih⟩,⟨Bf,rN,j3⟩,cL,h8⟩:=h.x2 aF
 have hlen:=h.len ax
 have GJ:=h.lL.length_eq
 have st:=(Hb (s j)).1
 have na:=h.made
 have vO:=fun v=>Qf (v:=v) h.lL
 have Ru:v.ks.drop i=v.ks.getD i 0::v.ks.drop (i+1):=by
  rw[List.drop_eq_getElem_cons I,List.getD_eq_getElem?_getD,List.getElem?_eq_getElem I];rfl
 cases aY with
 |done=>exact aB.elim
 |load=>
  simp only[vn]at aB
  simp only[ra]
  obtain⟨⟨fi,hs,Du⟩,pre,post,af,fh,me,ak⟩:=aB
  have hB:=h.hm.u6 af
  rw[<-fh]at hB
  have tj:u.key∈z.a_.map (·.key):=fi.subset (by rw[Ru,Du];simp)
  rw[af,List.map_append,List.mem_append]at tj
  have tj:=tj.resolve_left me
  cases post with
  |nil=>simp at tj
  |cons e l=>
   have hJ:e∈z.a_:=by rw[af];simp
   obtain⟨dA,h1,hD⟩:=h.hm.uN hJ
   simp only[List.length_cons]at ak
   refine⟨_,hB,h1,fun e=>?_,.inl ⟨aH,?_⟩⟩
   .exact aH
   show pj p an ar a8 s vs aX aS N r j a.tick (.take 0 (.take v {u with bH:=false,a7:=IntKind.wrap .i64 e.h} .key) i c) (vs j)
   rw[dA]
   exact h.bK ax (rx:=hR p (c-1)+2*l.length+7) (by rw[aa];rfl) ⟨rfl,⟨e0,oB,jK⟩,aH,⟨fi,hs,Du⟩,pre,e,l,af,fh,rfl,me,rfl⟩ (by rw[rW aM];exact st) (.inr aM) I
 |key=>
  simp only[vn]at aB
  simp only[ra]
  obtain⟨⟨fi,hs,Du⟩,pre,e,post,af,fh,gN,me,ak⟩:=aB
  have hJ:e∈z.a_:=by rw[af];simp
  rw[gN]
  refine⟨_,h.hm.rd_key hJ,fun aD=>⟨fun _=>aH,.inl ⟨aH,?_⟩⟩,fun aD=>⟨fun _=>aH,.inl ⟨aH,?_⟩⟩⟩
  .show pj p an ar a8 s vs aX aS N r j a.tick (.take 0 (.take v {u with bH:=false,a7:=e.h} .cell) i c) (vs j)
   refine h.bK ax (rx:=hR p (c-1)+5) (by rw[aa];rfl) ⟨rfl,⟨e0,oB,jK⟩,aH,pre,e,post,af,fh,rfl,⟨?_,hs⟩,rfl⟩ (by rw[rW aM];exact st) (.inr aM) I
   rw[Ru,<-Du,<-aD,af,List.map_append,List.map_cons]at fi
   rw[List.map_append]
   exact(fi.trans List.perm_middle).cons_inv
  .show pj p an ar a8 s vs aX aS N r j a.tick (.take 0 (.take v {u with bH:=false,eo:=u.bk,ep:=u.bo,bk:=e.h,bo:=2,a7:=e.h} .load) i c) (vs j)
   refine h.bK ax (rx:=hR p (c-1)+2*post.length+6) (by rw[aa];rfl) ⟨rfl,⟨e0,oB,jK⟩,aH,⟨fi,hs,Du⟩,pre++[e],post,by rw[af];simp,by rw[DS],?_,rfl⟩ (by rw[rW aM];exact st) (.inr aM) I
   simp only[List.map_append,List.map_cons,List.map_nil,List.mem_append,List.mem_singleton,not_or]
   exact⟨me,fun aJ=>aD aJ.symm⟩
 |cell=>
  simp only[vn]at aB
  simp only[ra]
  obtain⟨pre,e,post,af,fh,gN,⟨fi,hs⟩,ak⟩:=aB
  have hJ:e∈z.a_:=by rw[af];simp
  rw[gN]
  refine⟨_,h.hm.rd_val hJ,fun aO=>⟨fun _=>aH,.inl ⟨aH,?_⟩⟩⟩
  show pj p an ar a8 s vs aX aS N r j a.tick (.take 0 (.take v {u with bH:=true,aO:=some aO,a7:=e.h} (.jo aO e.val)) i c) (vs j++[e.val])
  have xQ:(e::(pre++post)).Perm z.a_:=by rw[af];exact List.perm_middle.symm
  refine h.inner ax (by rw[aa];rfl) (z':={z with hx:=e::(pre++post)}) (h.hm.tick.hx _) ⟨rfl,rfl⟩ rfl rfl rfl xQ ?_ ?_ ih ?_ (fun _ _ _ au=>⟨au,rfl⟩) (rx:=hR p (c-1)+4) ⟨rfl,⟨e0,oB,jK⟩,aH,pre,e,post,af,fh,rfl,⟨fi,hs⟩,rfl,rfl⟩ ?_ (.inr aM) I
  .rw[aa];show(z.a_.length:Int)+0- (z.a_.length+0)=z.L-z.L;omega
  .show 0<=(z.a_.length:Int)+0;omega
  .intro w;rw[aa]
   show bZ w ((pre++post).map (·.val))+bZ w (vs j++[e.val])<=bZ w (z.hx.map (·.val))+bZ w (vs j)
   rw[vO,af,AG,List.map_append,rA,rA];omega
  .rw[rW aM];show a.m.made+0<=_;omega
 |jo aO w=>
  simp only[vn]at aB
  simp only[ra]
  obtain⟨pre,e,post,af,fh,gN,⟨fi,hs⟩,Ld,ak⟩:=aB
  rw[gN]
  refine⟨_,h.hm.aeH af,fun _=>aH,.inl ⟨aH,?_⟩⟩
  show pj p an ar a8 s vs aX aS N r j a.tick (.take 0 (.take v {u with bH:=false,a7:=e.h} (.j9 aO w (di post 0))) i c) (vs j)
  exact h.bK ax (rx:=hR p (c-1)+3) (by rw[aa];rfl) ⟨rfl,⟨e0,oB,jK⟩,aH,pre,e,post,af,fh,rfl,⟨fi,hs⟩,Ld,rfl,rfl⟩ (by rw[rW aM];exact st) (.inr aM) I
 |j9 aO w x=>
  simp only[vn]at aB
  simp only[ra]
  obtain⟨pre,e,post,af,fh,gN,⟨fi,hs⟩,Ld,rfl,ak⟩:=aB
  have hJ:e∈z.a_:=by rw[af];simp
  have hB:=h.hm.u6 (pre:=pre) (post:=e::post) af
  obtain⟨iI,Ss,Sq⟩:=h.hm.cut af (.lay 7) aM (pre++post)
  obtain⟨cP,qd⟩:=h.hm.x9 hJ
  rw[<-fh]at hB iI Ss Sq
  obtain⟨⟨KE,vV⟩,KF⟩:=iI.defer (e:=e.h) (j:=7) (h' _ _ _) (Sq.trans qd)
  have kK:=h.hm.e7 e hJ
  rw[gN]
  refine⟨G8 h.hm (pre:=pre++[e]) (by rw[af];simp),⟨_,hB⟩,KE,vV,h.hm.oj I,fun b bC fl c_=>⟨fun _=>aH,.inl ⟨aH,?_⟩⟩⟩
  obtain⟨hF,Lh⟩:=KF b bC fl c_
  show pj p an ar a8 s vs aX aS N r j _ (.take 0 (.take v {u with bH:=false,a7:=e.h} .more) i c) (vs j)
  refine h.inner ax (by rw[aa];rfl) hF ⟨rfl,rfl⟩ rfl rfl rfl (List.Perm.refl _) ?_ ?_ ih ?_ (fun ay i2 _ au=>?_) (rx:=hR p (c-1)+2) ⟨rfl,⟨e0,oB,jK⟩,aH,⟨fi,?_⟩,rfl⟩ ?_ (.inr aM) I
  .rw[aa,af];show((pre++post).length:Int)+1- ((pre++e::post).length+0)=z.L-z.L;simp<;>omega
  .show 0<=((pre++post).length:Int)+1;omega
  .intro w';rw[aa]
   show bZ w' ((pre++post).map (·.val))+bZ w' (vs j)<=bZ w' (z.hx.tail.map (·.val))+bZ w' (vs j)
   rw[Ld];exact Int.le_refl _
  .have bq:ay≠e.h:=fun aD=>by rw[aD,kK]at au;simp at au
   have aDE:ay≠p.R:=fun e=>by rw[e,h.hm.et]at au;simp at au
   have tm:ez z.own e.h (.lay 7) ay= .lay i2:=by rw[dT _ _ bq];exact au
   refine⟨?_,?_⟩
   .show ez (ez z.own e.h (.lay 7)) e.h .queue ay= .lay i2
    rw[dT _ _ bq];exact tm
   .rw[Lh ay (by show ez z.own e.h (.lay 7) ay≠_;rw[tm];simp) bq];exact Ss ay (by rw[au];simp) aDE
  .show(pre++post).length+1=c
   rw[<-hs,af];simp<;>omega
  .rw[rW aM]
   show((((a.put u.bk u.bo (di post 0)).push e.h b bC fl).m.cX _).made:Int)+0<=_
   rw[(tz _ _).2.1];show a.m.made+0<=_;omega
 |more=>
  simp only[vn]at aB
  simp only[ra]
  obtain⟨⟨fi,hs⟩,ak⟩:=aB
  have m_:=hlen (by rw[aa];rfl)
  rw[aa]at m_
  have m_:(z.a_.length:Int)+1=z.L:=m_
  have Kw:fy z.L iw iw=z.L-1:=by
   rw[xm ⟨uy,I⟩ ⟨by decide,by decide⟩,show z.L+iw=(z.L-1)+18446744073709551616 by show z.L+18446744073709551615=_;omega,asS I I]
  refine⟨_,h.hm.M0,fun e=>by simp at e,.inr ⟨by trivial,jK,?_⟩⟩
  rw[Kw]
  refine h.inner ax (by rw[aa];rfl) (z':={z with L:=z.L-1}) (h.hm.tK rfl rfl rfl) ⟨rfl,rfl⟩ rfl rfl rfl h.lL ?_ ?_ ?_ ?_ (fun ay i2 _ au=>⟨au,hI fun e=>?_⟩) (rx:=hR p (c-1)) ⟨rfl,fi,by show z.a_.length=c-1;omega,⟨I,I⟩,rfl⟩ ?_ (.inr aM) I
  .rw[aa];show(z.a_.length:Int)+0- (z.a_.length+1)=z.L-1-z.L;omega
  .show 0<=(z.a_.length:Int)+0;omega
  .show z.L-1<=p.E;omega
  .intro w;rw[aa];exact Int.le_refl _
  .rw[e,h.hm.et]at au;simp at au
  .rw[rW aM];show a.m.made+0<=_;omega
theorem aCX(h:fe p an ar a8 a z s vs aX aS N r)(ax:j<5)(aF:N<1000000000){R:LT}(aa:s j= .leave k R):tA p a R (fun a' gT=>gT.u.cJ=true/\pj p an ar a8 s vs aX aS N r j a' .none (vs j)):=by
 have lE:=h.loc j ax
 rw[aa]at lE
 cases R with
 |take v u aY=>exact lE.elim
 |leave u d=>
  obtain⟨rfl,aH,ak⟩:=lE
  obtain⟨⟨uy,ih⟩,⟨Bf,rN,j3⟩,cL,h8⟩:=h.x2 aF
  have st:=(Hb (s j)).1
  refine⟨_,h.hm.HK,rfl,?_⟩
  rw[h8]
  have aQ:=h.aQ.leave (k:=0) (x:=dn .none (vs j)) ax (by rw[aa];rfl) (tC _ _) (by rw[aa];rfl) (by rw[aa];rfl) rfl rfl (fun v=>by rw[aa];exact Int.le_refl _)
  rw[nM,DZ]at aQ
  refine h.step ax (x:=.none) (z':={z with bM:=z.bM+1}) (h.hm.tK rfl rfl rfl) ⟨rfl,rfl⟩ h.lL aQ (.inl ⟨rfl,rfl,rfl⟩) (fun ay i aC au=>⟨au,hI fun e=>?_⟩) (rx:=0) rfl ?_ (.inr aM) I
  .rw[e,h.hm.et]at au;simp at au
  .rw[rW aM];show a.m.made+0<=_;omega
end
section
section
variable{p:ff}{a:aE}
theorem Ta{u:c3}{aY:qB}{ks:List Int}{Q Q':aE->c3->qB->List Int->Prop}(h:pB p a u aY ks Q)(bO:∀a' bj dV k8,Q a' bj dV k8->Q' a' bj dV k8):pB p a u aY ks Q':=by
 unfold pB at h |-
 cases aY<;>simp only at h |-
 .obtain⟨w,J,U⟩:=h;exact⟨w,J,bO _ _ _ _ U⟩
 .obtain⟨w,J,U,aq⟩:=h;exact⟨w,J,fun e=>bO _ _ _ _ (U e),fun e=>bO _ _ _ _ (aq e)⟩
 .obtain⟨w,J,U,aq⟩:=h;exact⟨w,J,fun e=>⟨(U e).1,bO _ _ _ _ (U e).2⟩,fun e=>bO _ _ _ _ (aq e)⟩
 .obtain⟨a5,w,J,U⟩:=h;exact⟨a5,w,J,bO _ _ _ _ U⟩
theorem asy{u:c3}{aY:pR}{Q Q':aE->c3->pR->Prop}(h:ra p a u aY Q)(bO:∀a' bj dV,Q a' bj dV->Q' a' bj dV):ra p a u aY Q':=by
 unfold ra at h |-
 cases aY<;>simp only at h |-
 .obtain⟨w,J,U,aq⟩:=h;exact⟨w,J,U,bO _ _ _ aq⟩
 .obtain⟨w,J,U,aq⟩:=h;exact⟨w,J,fun e=>bO _ _ _ (U e),fun e=>bO _ _ _ (aq e)⟩
 .obtain⟨w,J,U⟩:=h;exact⟨w,J,fun aO=>bO _ _ _ (U aO)⟩
 .obtain⟨w,J,U⟩:=h;exact⟨w,J,bO _ _ _ U⟩
 .obtain⟨J,U,aq,aK,bx,cp⟩:=h;exact⟨J,U,aq,aK,bx,fun b bC fl c_=>bO _ _ _ (cp b bC fl c_)⟩
 .obtain⟨w,J,U⟩:=h;exact⟨w,J,bO _ _ _ U⟩
theorem LN{R:LT}{Q Q':aE->LT->Prop}(h:tA p a R Q)(bO:∀a' v',Q a' v'->Q' a' v'):tA p a R Q':=by
 cases R with
 |take v u aY=>simp only[tA]at h |-;exact asy h fun a' bj dV h=>bO _ _ h
 |leave u d=>obtain⟨w,J,U⟩:=h;exact⟨w,J,bO _ _ U⟩
theorem S_{u:c3}{aY:kV}{Q Q':aE->c3->kV->Prop}(h:kO p a u aY Q)(bO:∀a' bj dV,Q a' bj dV->Q' a' bj dV):kO p a u aY Q':=by
 cases aY
 case draw=>obtain⟨w,J,U⟩:=h;exact⟨w,J,bO _ _ _ U⟩
 case wait=>obtain⟨w,J,U,aq⟩:=h;exact⟨w,J,fun e=>bO _ _ _ (U e),fun e=>bO _ _ _ (aq e)⟩
 case load=>obtain⟨w,J,U,aq⟩:=h;exact⟨w,J,fun e=>bO _ _ _ (U e),fun e=>bO _ _ _ (aq e)⟩
 case key=>obtain⟨w,J,U,aq⟩:=h;exact⟨w,J,fun e=>bO _ _ _ (U e),fun e=>bO _ _ _ (aq e)⟩
 case bZ=>obtain⟨J,U,w,aq,aK,bx,cp⟩:=h;exact⟨J,U,w,aq,fun e=>bO _ _ _ (aK e),fun aD aJ b=>bO _ _ _ (bx aD aJ b),fun aD aJ b=>bO _ _ _ (cp aD aJ b)⟩
 case cut=>obtain⟨J,U⟩:=h;exact⟨J,bO _ _ _ U⟩
 case rV=>obtain⟨a5,J,U⟩:=h;exact⟨a5,J,bO _ _ _ U⟩
 case tB=>obtain⟨a5,J,U⟩:=h;exact⟨a5,J,bO _ _ _ U⟩
 case tZ=>obtain⟨w,J,U⟩:=h;exact⟨w,J,bO _ _ _ U⟩
 case mw=>obtain⟨a5,J,U⟩:=h;exact⟨a5,J,bO _ _ _ U⟩
 case sV d=>
  cases d with
  |none=>obtain⟨J,U⟩:=h;exact⟨J,bO _ _ _ U⟩
  |some last=>obtain⟨J,U,aq,aK,bx⟩:=h;exact⟨J,U,aq,aK,fun b bC fl c_=>bO _ _ _ (bx b bC fl c_)⟩
 case set=>obtain⟨a5,J,U,aq⟩:=h;exact⟨a5,J,fun e=>bO _ _ _ (U e),fun e=>bO _ _ _ (aq e)⟩
 case jo=>obtain⟨w,J,U⟩:=h;exact⟨w,J,bO _ _ _ U⟩
 case j9=>obtain⟨a5,J,U⟩:=h;exact⟨a5,J,bO _ _ _ U⟩
 case tY=>obtain⟨w,J,U⟩:=h;exact⟨w,J,bO _ _ _ U⟩
 case tW=>obtain⟨a5,J,U⟩:=h;exact⟨a5,J,bO _ _ _ U⟩
 case tX=>obtain⟨J,U⟩:=h;exact⟨J,bO _ _ _ U⟩
 case more=>obtain⟨w,J,U⟩:=h;exact⟨w,J,bO _ _ _ U⟩
 case drop=>obtain⟨w,J,U⟩:=h;exact⟨w,J,bO _ _ _ U⟩
 case done=>exact h.elim
end
section
variable{p:ff}{an ar:Nat}{a8:List Int}{a:aE}{z:l8}{s:Nat->ju}{vs:Nat->List Int}{aX:List Int}{aS N:Int}{r:Nat->Nat}{j:Nat}{k:Int}
theorem fe.ix(h:fe p an ar a8 a z s vs aX aS N r)(ax:j<5):r j<=hR p p.E.toNat+2*p.E.toNat+20:=by
 have aA:=h.loc j ax
 have mJ:=h.pc
 have aw:=h.len ax
 have ih:=h.aQ.LE
 cases aa:s j with
 |none=>rw[aa]at aA;simp only[rp]at aA;omega
 |lay l=>
  obtain⟨u,aY⟩:=l
  rw[aa]at aA aw
  obtain⟨_,_,aB⟩:=aA
  cases aY<;>simp only[lk]at aB
  case draw=>omega
  case wait t=>omega
  case load=>
   obtain⟨pre,post,⟨af,_⟩,ak⟩:=aB
   have:=aw rfl
   simp only[dn,af,List.length_append]at this
   omega
  case key=>
   obtain⟨pre,e,post,⟨af,_⟩,_,ak⟩:=aB
   have:=aw rfl
   simp only[dn,af,List.length_append,List.length_cons]at this
   omega
  case bZ=>omega
  case cut=>obtain⟨_,_,_,_,_,_,ak⟩:=aB;omega
  case rV=>omega
  case tB=>omega
  case tZ=>omega
  case mw=>omega
  case sV=>omega
  case set=>obtain⟨_,_,_,_,_,ak⟩:=aB;omega
  case jo=>obtain⟨_,_,_,_,_,_,ak⟩:=aB;omega
  case j9=>obtain⟨_,_,_,_,_,_,_,ak⟩:=aB;omega
  case tY=>obtain⟨_,_,_,_,ak⟩:=aB;omega
  case tW=>obtain⟨_,_,_,_,_,ak⟩:=aB;omega
  case tX=>obtain⟨_,_,_,ak⟩:=aB;omega
  case more=>omega
  case drop=>omega
 |b_ k v=>
  rw[aa]at aA aw
  obtain⟨_,_,aB⟩:=aA
  cases bh:v.aY<;>simp only[bh]at aB
  case draw=>omega
  case wait t=>omega
  case load=>
   obtain⟨pre,post,af,_,_,ak⟩:=aB
   have:=aw (by simp[dn,bh])
   have U:(z.a_.length:Int)+0=z.L:=by simpa[dn,bh]using this
   have n8:=DQ (p:=p) (I:z.a_.length<=p.E.toNat)
   have aq:post.length<=z.a_.length:=by rw[af,List.length_append];omega
   omega
  case key=>
   obtain⟨pre,e,post,af,_,_,ak⟩:=aB
   have:=aw (by simp[dn,bh])
   have U:(z.a_.length:Int)+0=z.L:=by simpa[dn,bh]using this
   have n8:=DQ (p:=p) (I:z.a_.length<=p.E.toNat)
   have aq:post.length<=z.a_.length:=by rw[af,List.length_append,List.length_cons];omega
   omega
 |stay k v i c=>
  rw[aa]at aA aw
  obtain⟨_,_,af,_,ak⟩:=aA
  have U:(z.a_.length:Int)+0=z.L:=aw rfl
  have n8:=DQ (p:=p) (I:c<=p.E.toNat)
  omega
 |take k R i c=>
  rw[aa]at aA aw
  cases R with
  |leave u d=>exact aA.elim
  |take v u aY=>
   obtain⟨_,⟨_,_,jK⟩,_,aB⟩:=aA
   have n8:c<=p.E.toNat->hR p (c-1)<=hR p p.E.toNat:=fun h=>DQ I
   cases aY<;>simp only[vn]at aB
   case load=>
    obtain⟨⟨_,hs,_⟩,pre,post,af,_,_,ak⟩:=aB
    have U:(z.a_.length:Int)+0=z.L:=aw rfl
    have aq:post.length<=z.a_.length:=by rw[af,List.length_append];omega
    have:=n8 I
    omega
   case key=>
    obtain⟨⟨_,hs,_⟩,pre,e,post,af,_,_,_,ak⟩:=aB
    have U:(z.a_.length:Int)+0=z.L:=aw rfl
    have aq:post.length<=z.a_.length:=by rw[af,List.length_append,List.length_cons];omega
    have:=n8 I
    omega
   case cell=>
    obtain⟨pre,e,post,af,_,_,⟨_,hs⟩,ak⟩:=aB
    have U:(z.a_.length:Int)+0=z.L:=aw rfl
    have:=n8 I
    omega
   case jo=>
    obtain⟨pre,e,post,af,_,_,⟨_,hs⟩,_,ak⟩:=aB
    have U:(z.a_.length:Int)+0=z.L:=aw rfl
    have:=n8 I
    omega
   case j9=>
    obtain⟨pre,e,post,af,_,_,⟨_,hs⟩,_,_,ak⟩:=aB
    have U:(z.a_.length:Int)+0=z.L:=aw rfl
    have:=n8 I
    omega
   case more=>
    obtain⟨⟨_,hs⟩,ak⟩:=aB
    have U:(z.a_.length:Int)+1=z.L:=aw rfl
    have:=n8 I
    omega
 |leave k R=>
  rw[aa]at aA
  cases R with
  |take v u aY=>exact aA.elim
  |leave u d=>have:=aA.2.2;omega
theorem fe.prog(h:fe p an ar a8 a z s vs aX aS N r)(hw:∃j,j<5/\fj z (s j)):∃j,j<5/\s j≠ .none/\¬fj z (s j):=by
 have dR:∀j,fj z (s j)->∃t,(dn (s j) (vs j)).cd= .wait 0 t/\z.bM≠t:=fun j hw=>by
  cases aa:s j with
  |lay l=>
   obtain⟨u,aY⟩:=l
   rw[aa]at hw
   cases aY<;>first|exact hw.elim|exact⟨_,rfl,hw⟩
  |b_ k v=>
   rw[aa]at hw
   simp only[fj]at hw
   split at hw
   .next t bh=>exact⟨t,by simp[dn,bh],hw⟩
   .exact hw.elim
  |none=>rw[aa]at hw;exact hw.elim
  |stay k v i c=>rw[aa]at hw;exact hw.elim
  |take k R i c=>rw[aa]at hw;exact hw.elim
  |leave k R=>rw[aa]at hw;exact hw.elim
 obtain⟨j,ax,hw⟩:=hw
 obtain⟨t,bg,_⟩:=dR j hw
 obtain⟨i,aC,aq⟩:=(h.aQ.cd 0 I (by decide)).1.first ax bg
 rw[nM]at aq
 refine⟨i,aC,fun e=>?_,fun sA=>?_⟩
 .simp only[e,dn]at aq
  rcases aq with aq|aq<;>cases aq
 .obtain⟨t2,c6,cO⟩:=dR i sA
  simp only[c6]at aq
  rcases aq with aq|aq
  .simp only[gk.wait.injEq,true_and]at aq;exact cO aq.symm
  .cases aq
theorem fe.other(h:fe p an ar a8 a z s vs aX aS N r){a':aE}{js:List Int}(dK:eQ p a' z)(ob:a'.an=a.an/\a'.ar=a.ar)(m9:a'.inside=js/\a'.hq=5)(e6:a'.m.made=a.m.made)(dR:∀ay i,z.own ay= .lay i->a'.ws ay=a.ws ay):fe p an ar js a' z s vs aX aS N r:=
 ⟨dK,h.lL,h.aQ,fun j ax=>(h.loc j ax).frame (vs:=vs j) (fun _=>⟨rfl,rfl,rfl⟩) (fun ay au=>⟨au,dR ay j au⟩),by rw[e6];exact h.md,h.iZ,h.dF,by rw[ob.1,ob.2];exact h.i',m9,h.lI,h.pc⟩
theorem fe.enter(h:fe p an ar a8 a z s vs aX aS N r){x:Int}(aj:x∉a8):fe p an ar (a8++[x]) (a.enter x) z s vs aX aS N r:=
 h.other (h.hm.enter (by rw[h.ins.1];exact aj)) ⟨rfl,rfl⟩ ⟨by show a.inside++[x]=_;rw[h.ins.1],h.ins.2⟩ rfl fun _ _ _=>rfl
theorem fe.out(h:fe p an ar a8 a z s vs aX aS N r)(x:Int)(bC:V):fe p an ar (a8.erase x) ((a.out x).cX bC) z s vs aX aS N r:=by
 obtain⟨J,U⟩:=h.hm.leave x bC
 exact h.other J ⟨rfl,rfl⟩ ⟨by show a.inside.erase x=_;rw[h.ins.1],h.ins.2⟩ (tz _ _).2.1 fun ay i au=>U ay (by rw[au];simp)
theorem fe.move(h:fe p an ar a8 a z s vs aX aS N r)(ax:j<5){x:ju}{vx:List Int}{td':List Int}{la' N':Int}{rx:Nat}
 (vB:hS 1 p.E (nL [] z.hx) (nL 0 z.cY) (nL 0 z.bM) z.L 0 (bT (fun i=>dn (s i) (vs i)) j (dn x vx)) td' la' N') (o_:rp p a z j x rx) (e6:iN x-iN (s j)<=la'-aS) (kJ:0<=la'/\la'<=2000) (aF:0<=N') (dQ:3<=j\/∀l,x≠ .lay l):fe p an ar a8 a z (bT s j x) (bT vs j vx) td' la' N' (bT r j rx):=
 h.gen ax h.hm ⟨rfl,rfl⟩ h.lL vB (.inl ⟨rfl,rfl,rfl⟩) (fun _ _ _ au=>⟨au,rfl⟩) o_ I dQ kJ aF
theorem S2(h:fe p an ar a8 a z s vs aX aS N r){x:jb}(aA:x.cd=(dn (s j) (vs j)).cd)(k:Int)(a5:0<=k)(J:k< (1:Nat)):kU k (nL 0 z.cY k) (nL 0 z.bM k) (bT (fun i=>(dn (s i) (vs i)).cd) j x.cd)/\nL 0 z.cY k<=N+1:=by
 rw[aA,gz (fun i=>(dn (s i) (vs i)).cd) j]
 have:=h.aQ.cd k a5 J
 exact⟨this.1,I⟩
theorem fe.tell(h:fe p an ar a8 a z s vs aX aS N r)(ax:j<5)(aa:s j= .none):fe p an ar a8 a z s (bT vs j []) (aX++vs j) aS (N+1) r:=by
 have a5:r j=0:=by have:=h.loc j ax;rw[aa]at this;exact this
 have:=h.move ax (x:=.none) (vx:=[]) (td':=aX++vs j) (la':=aS) (N':=N+1) (rx:=0) ?_ rfl (by rw[aa];simp[iN]) h.iZ (by have:=h.dF;omega) (.inr fun _=>aM)
 .rw[<-aa,gz,<-a5,gz]at this;exact this
 .refine h.aQ.outer ax ?_ ?_ (fun k U aq=>S2 h ?_ k U aq) ?_ ?_ ?_ (fun v=>.inl ?_) (Int.le_refl _) h.iZ.1
  .rw[aa];simp[dn]
  .simp[dn]
  .rw[aa];simp[dn]
  .simp[dn]
  .rw[aa];simp[dn]
  .simp[dn]
  .rw[aa];simp only[dn,rA,vu];omega
theorem fe.Ac(h:fe p an ar a8 a z s vs aX aS N r)(ax:j<5)(aa:s j= .none)(ah:0<=k/\k<1):fe p an ar a8 a z (bT s j (.b_ k ⟨wV,.draw,[]⟩)) vs aX aS (N+1) (bT r j (hR p p.E.toNat+2*p.E.toNat+4)):=by
 have:=h.move ax (x:=.b_ k ⟨wV,.draw,[]⟩) (vx:=vs j) (td':=aX) (la':=aS) (N':=N+1) (rx:=hR p p.E.toNat+2*p.E.toNat+4) (h.aQ.same ?_) ⟨I,rfl,rfl,rfl⟩ (by rw[aa];simp[iN]) h.iZ (by have:=h.dF;omega) (.inr fun _=>aM)
 .rw[gz]at this;exact this
 .rw[aa];rfl
theorem fe.zE(h:fe p an ar a8 a z s vs aX aS N r)(ax:3<=j/\j<5)(aa:s j= .none)(kJ:aS<2000){key:Int}(eF:dZ key):fe p an ar a8 a z (bT s j (.lay (⟨key,aS+1,2,false,0,0,0,0,0,0,false,false,none⟩,.draw))) vs aX (aS+1) (N+1) (bT r j (2*p.E.toNat+13)):=by
 have aA:=h.iZ
 have:=h.move ax.2 (x:=.lay (⟨key,aS+1,2,false,0,0,0,0,0,0,false,false,none⟩,.draw)) (vx:=vs j) (td':=aX) (la':=aS+1) (N':=N+1) (rx:=2*p.E.toNat+13) ?_ ⟨⟨eF,⟨by show 0<=aS+1;omega,by show aS+1<_;omega⟩⟩,rfl,rfl⟩ (by rw[aa];simp only[iN];omega) I (by have:=h.dF;omega) (.inl ax.1)
 .rw[gz]at this;exact this
 .refine h.aQ.outer ax.2 ?_ ?_ (fun k U aq=>S2 h ?_ k U aq) ?_ ?_ ?_ (fun v=>?_) I h.iZ.1
  .rw[aa];simp[dn]
  .simp[dn]
  .rw[aa];simp[dn]
  .simp[dn]
  .rw[aa];simp[dn]
  .simp[dn]
  .by_cases e:v=aS+1
   .refine .inr ⟨fun w=>?_,e,I,?_⟩
    .have J:jR (fun j=>bZ w (dn (s j) (vs j)).vs)+bZ w aX<=1:=(h.aQ.g6).1 w
     have U:ms (fun _=>bZ w []) 1=0:=BX _
     show ms (fun _=>bZ w []) 1+(jR (fun j=>bZ w (dn (s j) (vs j)).vs)+bZ w aX)<=1
     omega
    .rw[aa];subst e;simp only[dn]
     rw[rB]
     have:bZ (aS+1) [aS+1]=1:=by simp[bZ]
     omega
   .left
    rw[aa];simp only[dn]
    rw[rB]
    have:bZ v [aS+1]=0:=by simp[bZ,List.count_singleton];exact fun h=>e h.symm
    omega
theorem aDe(h:fe p an ar a8 a z s vs aX aS N r)(ax:j<5){v:pk}{i c:Nat}(aa:s j= .stay k v i c)(jK:0<c):(i<v.ks.length/\v.ks.length<100000)/\∃r',fe p an ar a8 a z (bT s j (.take k (.take v ⟨v.ks.getD i 0,0,5,true,p.R,2,0,0,0,0,false,false,none⟩ .load) i c)) vs aX aS N r'/\e2 r'<=e2 r:=by
 have aA:=h.loc j ax
 have hlen:=h.len ax (by rw[aa];rfl)
 rw[aa]at aA hlen
 have hlen:(z.a_.length:Int)+0=z.L:=hlen
 obtain⟨rfl,fi,hs,⟨e0,oB⟩,ak⟩:=aA
 have ih:=h.aQ.LE
 have mJ:=h.pc
 have n8:=aCG (p:=p) jK
 refine⟨⟨I,I⟩,bT r j (hR p (c-1)+2*z.a_.length+6),?_,?_⟩
 .have:=h.move ax (x:=.take 0 (.take v ⟨v.ks.getD i 0,0,5,true,p.R,2,0,0,0,0,false,false,none⟩ .load) i c) (vx:=vs j) (td':=aX) (la':=aS) (N':=N) (rx:=hR p (c-1)+2*z.a_.length+6) ?_ ⟨rfl,⟨e0,oB,jK⟩,rfl,⟨fi,hs,rfl⟩,[],z.a_,rfl,rfl,aM,rfl⟩ (by rw[aa];simp[iN]) h.iZ h.dF (.inr fun _=>aM)
  .rw[gz]at this;exact this
  .have e:dn (.take 0 (.take v ⟨v.ks.getD i 0,0,5,true,p.R,2,0,0,0,0,false,false,none⟩ .load) i c) (vs j)=dn (s j) (vs j):=by rw[aa];rfl
   rw[e,gz (fun i=>dn (s i) (vs i)) j];exact h.aQ
 .have:=tQ (r:=r) ax (hR p (c-1)+2*z.a_.length+6)
  omega
theorem aCW(h:fe p an ar a8 a z s vs aX aS N r)(ax:j<5){v:pk}{i c:Nat}(aa:s j= .stay k v i c):∃r',fe p an ar a8 a z (bT s j (.leave k (.leave wV false))) vs aX aS N r'/\e2 r'<=e2 r:=by
 have aA:=h.loc j ax
 rw[aa]at aA
 obtain⟨rfl,fi,hs,⟨e0,oB⟩,ak⟩:=aA
 refine⟨bT r j 1,?_,?_⟩
 .have:=h.move ax (x:=.leave 0 (.leave wV false)) (vx:=vs j) (td':=aX) (la':=aS) (N':=N) (rx:=1) ?_ ⟨rfl,rfl,rfl⟩ (by rw[aa];simp[iN]) h.iZ h.dF (.inr fun _=>aM)
  .rw[gz]at this;exact this
  .have e:dn (.leave 0 (.leave wV false)) (vs j)=dn (s j) (vs j):=by rw[aa];rfl
   rw[e,gz (fun i=>dn (s i) (vs i)) j];exact h.aQ
 .have:=tQ (r:=r) ax 1
  have:1<=hR p c:=by unfold hR;omega
  omega
end
def aCF(p:ff)(an ar cx:Nat)(yP:List (Nat×bt)):kj (qh p an ar cx yP) where
 Z:=l8
 D:=hR p p.E.toNat+2*p.E.toNat+20
 fo:=fe p an ar
 W:=fj
 e8:=⟨Int.le_refl _,by show(1:Int)<1000;omega⟩
 ix h j ax:=h.ix ax
 zero {a8 a z s vs aX aS N r} h j ax aa:=by
  have aA:=h.loc j ax
  have eK:(s:Nat->ju) j= .none:=aa
  rw[eK]at aA;exact aA
 i' h:=h.i'
 ins h:=h.ins
 H' h bO:=⟨h.1,Ta h.2 fun _ _ _ _ h=>bO _ _ h⟩
 BV h bO:=LN h bO
 LH {a v Q Q'} h bO:=by
  dsimp only[qh]at h |-
  exact S_ h fun _ _ _ h=>bO _ _ h
 az h:=h.hm.az
 yk:=⟨fun h=>h,fun k h=>h,fun k v i c h=>h,fun k r i c h=>h,fun k r h=>h⟩
 prog h hw:=h.prog hw
 tok {a8 a z s vs aX aS N r} h:=by
  have aA:=h.iZ
  obtain⟨⟨J,U,aq⟩,aK⟩:=h.aQ.tok
  refine⟨J,U,fun j ax=>?_,I,aA.1,aA.2⟩
  have:=aK j ax
  have:=aDq (s j) (vs j)
  omega
 enter h aj:=h.enter aj
 out x bC h:=h.out x bC
 tell h ax aa:=h.tell ax aa
 Ac h ax aa ah:=⟨_,I,h.Ac ax aa ah⟩
 zE h ax aa kJ eF aA:=by
  have p':=aA
  dsimp only[qh]at p'
  subst p'
  exact⟨_,I,h.zE ax aa kJ eF⟩
 NH {a8 a z s vs aX aS N r j k v} h ax aF aa:=by
  obtain⟨aH,aB⟩:=aDr h ax aF aa
  dsimp only[qh]
  refine⟨aH,Ta aB fun a' bj dV k8 av=>?_⟩
  rcases av with⟨J,U,z',r',aq,aK,bx⟩|⟨J,U,aq,aK,z',r',bx,cp⟩
  .rw[gz]at aq
   exact .inl ⟨J,U,z',r',aq,aK,bx⟩
  .rw[gz]at bx
   exact .inr ⟨J,U,aq,aK,z',r',bx,cp⟩
 NC h ax aa af:=by
  obtain⟨J,r',U,aq⟩:=aDe h ax aa af
  exact⟨J,rfl,rfl,r',U,aq⟩
 M8 {a8 a z s vs aX aS N r j k R i c} h ax aF aa:=by
  cases R with
  |leave u d=>
   have aA:=h.loc j ax
   have eK:(s:Nat->ju) j= .take k (.leave u d) i c:=aa
   rw[eK]at aA;exact aA.elim
  |take v u aY=>
   have a5:tA p a (.take v u aY) (fun a' gT=>∃bj dV,gT= .take v bj dV/\(bj.bH=true->bj.cJ=false)/\((bj.cJ=false/\pj p an ar a8 s vs aX aS N r j a' (.take k (.take v bj dV) i c) (if bj.bH then vs j++[LT.val (.take v bj dV)]else vs j))\/(bj.cJ=true/\0<c/\pj p an ar a8 s vs aX aS N r j a' (.stay k v (i+1) (c-1)) (vs j)))):=by
    simp only[tA]
    exact asy (aDd h ax aF aa) fun a' bj dV h=>⟨bj,dV,rfl,h⟩
   dsimp only[qh]
   refine LN a5 fun a' gT av=>?_
   obtain⟨bj,dV,rfl,J,U⟩:=av
   refine⟨rfl,J,?_⟩
   rcases U with⟨aq,z',r',aK,bx⟩|⟨aq,aK,z',r',bx,cp⟩
   .exact .inl ⟨aq,z',r',aK,bx⟩
   .rw[gz]at bx
    exact .inr ⟨aq,aK,v,z',r',rfl,bx,cp⟩
 LO h ax aa:=⟨trivial,rfl,aCW h ax aa⟩
 LR h ax aF aa:=by
  dsimp only[qh]
  refine LN (aCX h ax aF aa) fun a' gT av=>?_
  obtain⟨J,z',r',U,aq⟩:=av
  rw[gz]at U
  exact⟨J,z',r',U,aq⟩
 LP {a8 a z s vs aX aS N r j l} h ax aF aa:=by
  obtain⟨u,aY⟩:=l
  obtain⟨J,U⟩:=aCU h ax aF aa
  dsimp only[qh]
  refine⟨J,S_ U fun a' bj dV av=>?_⟩
  obtain⟨z',r',aq,aK,bx⟩:=av
  rw[gz]at aq
  cases aH:bj.cJ with
  |false=>
   simp only[xV,aH,cond_false]at aq aK
   exact .inl ⟨rfl,z',r',aq,aK,bx⟩
  |true=>
   simp only[xV,aH,cond_true]at aq aK
   have hw:¬fj z (s j):=fun hw=>(aK hw).2.1
   exact .inr ⟨rfl,hw,z',r',aq,bx hw⟩
end
section
section
variable{p:ew}{a:aE}
theorem So{v:jd}{Q Q':aE->jd->Prop}(h:qY p a v Q)(bO:∀a' v',Q a' v'->Q' a' v'):qY p a v Q':=by
 unfold qY at h |-
 cases aB:v.aY<;>simp only[aB]at h |-
 .obtain⟨w,J,U⟩:=h;exact⟨w,J,bO _ _ U⟩
 .obtain⟨a5,w,J,U,aq⟩:=h;exact⟨a5,w,J,fun e=>bO _ _ (U e),fun e=>bO _ _ (aq e)⟩
 .obtain⟨a5,w,J,U,aq⟩:=h;exact⟨a5,w,J,fun e=>bO _ _ (U e),fun e=>bO _ _ (aq e)⟩
 .obtain⟨w,J,U,aq⟩:=h;exact⟨w,J,fun e=>bO _ _ (U e),fun e=>bO _ _ (aq e)⟩
 .obtain⟨a5,w,J,U⟩:=h;exact⟨a5,w,J,bO _ _ U⟩
theorem RL{u:lj}{Q Q':aE->lj->Prop}(h:px p a u Q)(bO:∀a' v',Q a' v'->Q' a' v'):px p a u Q':=by
 unfold px at h |-
 cases aB:u.aY<;>simp only[aB]at h |-
 .obtain⟨a5,ays,w,J,U⟩:=h;exact⟨a5,ays,w,J,bO _ _ U⟩
 .obtain⟨w,J,U⟩:=h;exact⟨w,J,bO _ _ U⟩
 .obtain⟨w,J,U⟩:=h;exact⟨w,J,bO _ _ U⟩
 .obtain⟨w,J,U⟩:=h;exact⟨w,J,bO _ _ U⟩
 .obtain⟨w,J,U⟩:=h;exact⟨w,J,bO _ _ U⟩
 .obtain⟨J,U,aq,aK,bx,cp⟩:=h;exact⟨J,U,aq,aK,bx,fun b bC fl c_=>bO _ _ (cp b bC fl c_)⟩
theorem Sb{u:gD}{Q Q':aE->gD->Prop}(h:lY p a u Q)(bO:∀a' v',Q a' v'->Q' a' v'):lY p a u Q':=by
 unfold lY at h |-
 cases aB:u.aY<;>simp only[aB]at h |-
 case draw=>obtain⟨w,J,U⟩:=h;exact⟨w,J,bO _ _ U⟩
 case wait=>obtain⟨a5,w,J,U,aq⟩:=h;exact⟨a5,w,J,fun e=>bO _ _ (U e),fun e=>bO _ _ (aq e)⟩
 case go=>obtain⟨a5,w,J,U,aq⟩:=h;exact⟨a5,w,J,fun e=>bO _ _ (U e),fun e=>bO _ _ (aq e)⟩
 case load=>obtain⟨w,J,U,aq⟩:=h;exact⟨w,J,fun e=>bO _ _ (U e),fun e=>bO _ _ (aq e)⟩
 case ask=>obtain⟨w,J,U,aq,aK⟩:=h;exact⟨w,J,fun e=>bO _ _ (U e),fun e=>bO _ _ (aq e),fun e=>bO _ _ (aK e)⟩
 case set=>obtain⟨a5,w,J,U⟩:=h;exact⟨a5,w,J,bO _ _ U⟩
 case leave=>obtain⟨a5,w,J,U⟩:=h;exact⟨a5,w,J,bO _ _ U⟩
 case space=>obtain⟨a5,J,U,w,aq,c6,cO,fc,kR,ea⟩:=h;exact⟨a5,J,U,w,aq,fun aD aJ=>bO _ _ (c6 aD aJ),fun aD aJ=>bO _ _ (cO aD aJ),fun aD aJ=>bO _ _ (fc aD aJ),fun aD aJ bP=>bO _ _ (kR aD aJ bP),fun aD aJ bP=>bO _ _ (ea aD aJ bP)⟩
 case make=>obtain⟨a5,J,U⟩:=h;exact⟨a5,fun e=>bO _ _ (J e),fun e b=>bO _ _ (U e b)⟩
 case fill=>obtain⟨a5,J,U,w,aq,c6,cO,fc⟩:=h;exact⟨a5,J,U,w,aq,fun e=>bO _ _ (c6 e),fun e=>bO _ _ (cO e),fun e=>bO _ _ (fc e)⟩
 case jY=>obtain⟨w,J,U⟩:=h;exact⟨w,J,bO _ _ U⟩
 case add=>obtain⟨a5,w,J,U,aq⟩:=h;exact⟨a5,w,J,fun e=>bO _ _ (U e),fun e=>bO _ _ (aq e)⟩
 case link=>obtain⟨w,J,U⟩:=h;exact⟨w,J,bO _ _ U⟩
theorem K7{R:ot}{Q Q':aE->ot->Prop}(h:we p a R Q)(bO:∀a' v',Q a' v'->Q' a' v'):we p a R Q':=by
 cases R with
 |take u=>exact RL (Q:=fun a' bj=>Q a' (.take bj)) (Q':=fun a' bj=>Q' a' (.take bj)) h fun a' bj h=>bO _ _ h
 |leave room e d=>obtain⟨a5,w,J,U⟩:=h;exact⟨a5,w,J,bO _ _ U⟩
end
section
variable{p:ew}{an ar:Nat}{a8:List Int}{a:aE}{z:kA}{s:Nat->jU}{vs:Nat->List Int}{aX:List Int}{aS N:Int}{r:Nat->Nat}{j:Nat}{k:Int}
theorem asL(v:jd):(v.aY.hL=false↔v.aY≠ .done)/\(v.aY.hL=true↔v.aY= .done):=by
 cases v.aY<;>simp[yx.hL]
theorem Lt(v:lj):(v.aY.hL=false↔v.aY≠ .done)/\(v.aY.hL=true↔v.aY= .done):=by
 cases v.aY<;>simp[Cd.hL]
theorem aIH(v:gD):(v.aY.hL=false↔v.aY≠ .done)/\(v.aY.hL=true↔v.aY= .done):=by
 cases v.aY<;>simp[Fo.hL]
theorem ev.asg(h:ev p an ar a8 a z s vs aX aS N r)(ax:j<5){x:jU}{rx:Nat}(hv:bU x (vs j)=bU (s j) (vs j))(aj:∀l,x≠ .lay l)(aA:pi p a z j x rx)(fi:fi (s j)=0):ev p an ar a8 a z (bT s j x) vs aX aS N (bT r j rx):=by
 have:=h.move ax (x:=x) (vx:=vs j) (td':=aX) (la':=aS) (N':=N) (rx:=rx) ?_ aA ?_ h.iZ h.dF (.inr aj)
 .rw[gz]at this;exact this
 .rw[hv,gz (fun i=>bU (s i) (vs i)) j];exact h.aQ
 .have e:Run.fi x=0:=by cases x<;>first|rfl|exact absurd rfl (aj _)
  rw[e,fi];omega
theorem aA_(h:ev p an ar a8 a z s vs aX aS N r)(ax:j<5){v:jd}{i c:Nat}(aa:s j= .stay k v i c)(jK:0<c):zo v i/\ev p an ar a8 a z (bT s j (.take k (.take ⟨p.R,bW v.room+2,v.gH.getD i 0,0,v,false,.start i⟩) i c)) vs aX aS N r:=by
 have aA:=h.loc j ax
 rw[aa]at aA
 obtain⟨⟨hU,kr⟩,j2,bh,af,g8,⟨e0,xD⟩,ak⟩:=aA
 have cy:=h.hm.cy
 have hlen:v.gH.length=i+c:=by rw[g8];simp[af]
 refine⟨⟨I,I,I,fun q av=>?_,I,I⟩,?_⟩
 .rw[g8,List.getElem?_append_left (by simpa using av),List.getElem?_replicate,if_pos av]
 .cases gf:z.a_ k with
  |nil=>rw[gf]at af;simp at af;omega
  |cons e post=>
   rw[gf]at af g8
   simp only[List.length_cons]at af
   have:=h.asg ax (x:=.take k (.take ⟨p.R,bW v.room+2,v.gH.getD i 0,0,v,false,.start i⟩) i c) (rx:=r j) (by rw[aa];rfl) aM ⟨⟨hU,kr⟩,⟨j2,bh⟩,e,post,gf,af.symm,?_,⟨rfl,by rw[<-j2]⟩,⟨e0,xD⟩,rfl,g8,ak⟩ (by rw[aa];rfl)
   .rw[gz]at this;exact this
   .show v.gH.getD i 0=e.h
    rw[g8,List.map_cons,List.getD_eq_getElem?_getD,List.getElem?_append_right aM];simp
theorem aAm(h:ev p an ar a8 a z s vs aX aS N r)(ax:j<5){v:jd}{i c:Nat}(aa:s j= .stay k v i c):∃r',ev p an ar a8 a z (bT s j (.leave k (.leave v.room false false))) vs aX aS N r'/\e2 r'<=e2 r:=by
 have aA:=h.loc j ax
 rw[aa]at aA
 obtain⟨⟨hU,kr⟩,j2,bh,af,g8,⟨e0,xD⟩,ak⟩:=aA
 refine⟨bT r j 1,h.asg ax (by rw[aa];rfl) aM ⟨⟨hU,kr⟩,j2,rfl,rfl⟩ (by rw[aa];rfl),?_⟩
 have:=tQ (r:=r) ax 1
 omega
end
def ayQ(p:ew)(an ar cx:Nat)(yP:List (Nat×bt))(cy:1<=p.B/\p.B<1000):kj (rD p an ar cx yP cy) where
 Z:=kA
 D:=14*p.E.toNat+20
 fo:=ev p an ar
 W:=dx p
 e8:=cy
 ix h j ax:=h.ix ax
 zero {a8 a z s vs aX aS N r} h j ax aa:=by
  have aA:=h.loc j ax
  have eK:(s:Nat->jU) j= .none:=aa
  rw[eK]at aA;exact aA
 i' h:=h.i'
 ins h:=h.ins
 H' h bO:=So h bO
 BV h bO:=K7 h bO
 LH h bO:=Sb h bO
 az h:=h.hm.az
 yk:=⟨fun h=>h,fun k h=>h,fun k v i c h=>h,fun k r i c h=>h,fun k r h=>h⟩
 prog h hw:=h.some hw
 tok {a8 a z s vs aX aS N r} h:=by
  have aA:=h.iZ
  obtain⟨⟨J,U,aq⟩,aK⟩:=h.aQ.tok
  refine⟨J,U,fun j ax=>?_,I,aA.1,aA.2⟩
  have:=aK j ax
  have:=aBj (s j) (vs j)
  omega
 enter h aj:=h.enter aj
 out x bC h:=h.out x bC
 tell h ax aa:=h.tell ax aa
 Ac h ax aa ah:=⟨_,I,h.Ac ax aa ah⟩
 zE h ax aa kJ eF aA:=by
  obtain⟨k,ah,rfl⟩:=aA
  exact⟨_,I,h.zE ax aa kJ eF ah⟩
 NH {a8 a z s vs aX aS N r j k v} h ax aF aa:=by
  dsimp only[rD]
  refine So (aBk h ax aF aa) fun a' v' av=>?_
  rcases av with⟨J,U,z',r',aq,aK,bx⟩|⟨J,U,aq,aK,z',r',bx,cp⟩
  .rw[gz]at aq
   exact .inl ⟨J,(asL v').1.2 U,z',r',aq,aK,bx⟩
  .rw[gz]at bx
   exact .inr ⟨J,(asL v').2.2 U,aq,aK,z',r',bx,cp⟩
 NC h ax aa af:=by
  obtain⟨J,U⟩:=aA_ h ax aa af
  exact⟨J,rfl,rfl,_,U,Nat.le_refl _⟩
 M8 {a8 a z s vs aX aS N r j k R i c} h ax aF aa:=by
  cases R with
  |leave room e d=>
   have aA:=h.loc j ax
   have eK:(s:Nat->jU) j= .take k (.leave room e d) i c:=aa
   rw[eK]at aA;exact aA.elim
  |take u=>
   have a5:we p a (.take u) (fun a' gT=>∃bj,gT= .take bj/\(bj.bH=true->bj.aY≠ .done)/\((bj.aY≠ .done/\w2 p an ar a8 s vs aX aS N r j a' (.take k (.take bj) i c) (if bj.bH then vs j++[bj.val]else vs j))\/(bj.aY= .done/\0<c/\w2 p an ar a8 s vs aX aS N r j a' (.stay k bj.b_ (i+1) (c-1)) (vs j)))):=by
    simp only[we]
    exact RL (aA6 h ax aF aa) fun a' bj h=>⟨bj,rfl,h⟩
   dsimp only[rD]
   refine K7 a5 fun a' gT av=>?_
   obtain⟨bj,rfl,J,U⟩:=av
   refine⟨rfl,fun e=>(Lt bj).1.2 (J e),?_⟩
   rcases U with⟨aq,z',r',aK,bx⟩|⟨aq,aK,z',r',bx,cp⟩
   .exact .inl ⟨(Lt bj).1.2 aq,z',r',aK,bx⟩
   .rw[gz]at bx
    exact .inr ⟨(Lt bj).2.2 aq,aK,bj.b_,z',r',rfl,bx,cp⟩
 LO h ax aa:=⟨trivial,rfl,aAm h ax aa⟩
 LR h ax aF aa:=by
  dsimp only[rD]
  refine K7 (aAr h ax aF aa) fun a' gT av=>?_
  obtain⟨J,z',r',U,aq⟩:=av
  rw[gz]at U
  exact⟨J,z',r',U,aq⟩
 LP {a8 a z s vs aX aS N r j l} h ax aF aa:=by
  obtain⟨J,U⟩:=aAd h ax aF aa
  dsimp only[rD]
  refine⟨(aIH l).1.2 J,Sb U fun a' bj av=>?_⟩
  obtain⟨z',r',aq,aK,bx⟩:=av
  rw[gz]at aq
  cases aH:bj.aY.hL with
  |false=>
   simp only[n_,aH,cond_false]at aq aK
   exact .inl ⟨rfl,z',r',aq,aK,bx⟩
  |true=>
   simp only[n_,aH,cond_true]at aq aK
   have hw:¬dx p z (s j):=fun hw=>(aK hw).2.1
   exact .inr ⟨rfl,hw,z',r',aq,bx hw⟩
end
