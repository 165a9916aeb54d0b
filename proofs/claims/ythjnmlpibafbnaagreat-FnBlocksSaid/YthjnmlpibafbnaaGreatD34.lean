import Derived.Test.YthjnmlpibafbnaaGreatD31
import Derived.Laws.Strings
import Derived.Laws.Concat
import Derived.Laws.IdiomStrings
import Derived.Laws.Cover3
namespace Go.Proofs.YthjnmlpibafbnaaGreat.DM
open Go.RowKit
set_option linter.unusedVariables false
set_option linter.unusedSimpArgs false
section
variable {P:Program}{T:TyEnv}{N K:Nat}{Q:Exit->St->Prop}{ops:Array Oper}{n:Nat}
def TK(P:Program)(o:Oper)(fr:Nat->Dat)(m:List Root)(v:Dat)(m':List Root):Prop:=
 ∀(N:Nat) (ρ:Rho) (a:Act) (w:World),Frm m.length ρ N fr a.tmps->Rep ρ m w->∀(Kc:Act->World->Prop) (Q':Exit->Act->World->Prop),
  (∀ρ' u w',Holds m'.length ρ' v u->Rep ρ' m' w'->Tr ρ m w ρ' m' w'->Kc (a.put o.dst u) w')->o.wp P a w Kc Q'
theorem TK.of(hT:TOK P T){wm:Bool}{o:Oper}{fr:Nat->Dat}{m m':List Root}{v:Dat}{ps:List Prop}(h:evalOp T wm o.op fr m=some (ps,v,m'))(hp:AllP ps):TK P o fr m v m':=by
 intro N ρ a w hf hr Kc Q' hK
 obtain⟨ρ1,w1,nx1,g1,g2,g3,g4⟩:=evalOp_ok hT h hp N ρ a w hf hr
 unfold Oper.wp
 rw[g1]
 rcases g2 with⟨u,rfl,hu⟩|⟨rfl,rfl⟩
 ·exact hK ρ1 u w1 hu g3 g4
 ·exact hK ρ1 undef w1 (.inl rfl) g3 g4
def WA2(P:Program)(N K:Nat)(ops:Array Oper)(Q:Exit->St->Prop)(n fuel:Nat)(listed:Array Bool)(fr:Nat->Dat)(m:List Root)(i:Nat):Prop:=
 ∃o v m',ops[i]? =some o/\gd ops o fr=some true/\dstOK N o.dst=true/\(MK P o fr m v m'\/(n<=i/\TK P o fr m v m'))/\WA P N K ops Q n fuel (listed.setIfInBounds i true) ⟨putO fr o.dst v,m'⟩
theorem WA.allT{fuel:Nat}{listed:Array Bool}{fr:Nat->Dat}{m:List Root}(rs:List Nat)(hr:Region.ready .any ops listed=rs)(hne:rs≠[])(h:∀i∈rs,WA2 P N K ops Q n fuel listed fr m i):WA P N K ops Q n (fuel+1) listed ⟨fr,m⟩:=by
 intro hns hclo ρ a w ⟨hfr,hdf,hrep,hK⟩
 refine⟨λ h0=>absurd (hr▸h0) hne,λ i hi=>?_⟩
 obtain⟨o,v,m',ho,hg,hd,hmk,k⟩:=h i (hr▸hi)
 unfold wpOp
 simp only[ho]
 rw[if_pos (gd_wanted hg hfr)]
 have go:∀ρ' u w',Holds m'.length ρ' v u->Rep ρ' m' w'->Tr ρ m w ρ' m' w'->wpAnyS P ops (PostA N K ρ ⟨fr,m⟩ w Q) n fuel (listed.setIfInBounds i true) (a.put o.dst u) w':=λ ρ' u w' hu hr' htr=>by
  have hreg':=k hns (hclo.ready hi) ρ' (a.put o.dst u) w' ⟨(hfr.tr htr).putO hd hu,by rw[put_defers];exact hdf,hr',Nat.le_trans hK htr.len⟩
  exact wpAnyS_mono (PostA.tr (s:=⟨fr,m⟩) (s1:=⟨putO fr o.dst v,m'⟩) (htr.toK hK)) _ _ _ _ hreg'
 rcases hmk with hmk|⟨hn,hmk⟩
 ·exact .inl (hmk N ρ a w hfr hrep _ _ λ ρ' u w' hu hr' htr hb=>⟨λ _=>hb,go ρ' u w' hu hr' htr⟩)
 ·exact .inl (hmk N ρ a w hfr hrep _ _ λ ρ' u w' hu hr' htr=>⟨λ h=>absurd h (Nat.not_lt.2 hn),go ρ' u w' hu hr' htr⟩)
def takesWB(ops:Array Oper):List Nat->Array Bool->Bool
 |[],_=>true
 |i::is,listed=>Region.free .any ops listed i&&((Region.ready .any ops listed).contains i&&takesWB ops is (listed.setIfInBounds i true))
theorem WA.takeD{fuel:Nat}{listed:Array Bool}{i:Nat}{o:Oper}{fr:Nat->Dat}{m:List Root}{v:Dat}{m2:List Root}(hi:ops[i]? =some o)(hf:Region.free .any ops listed i=true)(hr:(Region.ready .any ops listed).contains i=true)
  (hg:gd ops o fr=some true) (hd:dstOK N o.dst=true) (ho:QOK P o fr (List.replicate m.length .dead) v m2) (hm:m2=List.replicate m.length .dead) (k:WA P N K ops Q n fuel (listed.setIfInBounds i true) ⟨putO fr o.dst v,m⟩):WA P N K ops Q n (fuel+1) listed ⟨fr,m⟩:=by
 subst hm
 intro hns hclo ρ a w ⟨hfr,hdf,hrep,hK⟩
 have hri:i∈Region.ready .any ops listed:=by simpa using hr
 obtain⟨u,ρ',h1,h2,h3⟩:=ho N ρ a (by simpa using hfr)
 have g:=h3 w (rep_dead _ _ _)
 have hu:Holds m.length ρ v u:=by
  have:=g.2.1
  simp only[List.length_replicate] at this h1
  rcases this with h|⟨h4,h5,h6⟩
  ·exact .inl h
  ·exact .inr ⟨by rw[h4];exact enc_congr h1 v h5,h5,h6⟩
 refine wpAnyS_firstW hi hns (λ c a w q=>absurd rfl (q.1 c)) fuel listed a w (Region.free_spec hi hf) hri (v:=u) (.inl ⟨gd_wanted hg hfr,λ w' _=>(h3 w' (rep_dead _ _ _)).1⟩) ?_
 exact k hns (hclo.ready hri) ρ (a.put o.dst u) w ⟨hfr.putO hd hu,by rw[put_defers];exact hdf,hrep,hK⟩
def allDead:List Root->Bool
 |[]=>true
 | .dead::l=>allDead l
 |_=>false
theorem allDead_eq:∀{l:List Root},allDead l=true->l=List.replicate l.length .dead
 |[],_=>rfl
 | .dead::l,h=>by rw[List.length_cons,List.replicate_succ, <-allDead_eq (l:=l) h]
 | .var _::_,h=>by cases h
 | .row _ _ _ _::_,h=>by cases h
 | .ro _ _ _::_,h=>by cases h
def evD(T:TyEnv)(wm:Bool)(N:Nat)(ops:Array Oper)(d:List Root)(l:List Oper)(fr:Nat->Dat):Option (List Prop×(Nat->Dat)):=match l with
 |[]=>some ([],fr)
 |o::rest=>match gd ops o fr with
  |some true=>bif dstOK N o.dst&&isQ o.op then match evalOp T wm o.op fr d with
   |some (ps,v,m')=>bif allDead m'&&Nat.beq m'.length d.length then match evD T wm N ops d rest (putO fr o.dst v) with
     |some (qs,fr')=>some (ps++qs,fr')
     |none=>none
    else none
   |none=>none
   else none
  |_=>none
theorem WA.takesD'(hT:TOK P T){wm:Bool}{fuel:Nat}{m:List Root}:∀{is:List Nat}{listed:Array Bool}{fr fr':Nat->Dat}{ps:List Prop},takesWB ops is listed=true->evD T wm N ops (List.replicate m.length .dead) (pickO ops is) fr=some (ps,fr')->AllP ps->
  WA P N K ops Q n fuel (takesL is listed) ⟨fr',m⟩->WA P N K ops Q n (fuel+is.length) listed ⟨fr,m⟩
 |[],listed,fr,fr',ps,_,h,_,hk=>by
  simp only[pickO,evD,Option.some.injEq,Prod.mk.injEq] at h
  obtain⟨_,rfl⟩:=h
  exact hk
 |i::is,listed,fr,fr',ps,hB,h,hp,hk=>by
  simp only[takesWB,Bool.and_eq_true] at hB
  obtain⟨b2,b3,b4⟩:=hB
  have hri:i∈Region.ready .any ops listed:=by simpa using b3
  obtain⟨_,o,ho,_⟩:=mem_ready.1 hri
  simp only[pickO,ho,evD] at h
  rw[show fuel+(i::is).length=(fuel+is.length)+1 by simp only[List.length_cons];omega]
  split at h
  ·rename_i hg
   cases hd:dstOK N o.dst&&isQ o.op with
   |false=>rw[hd] at h;cases h
   |true=>
    rw[hd] at h
    simp only[Bool.and_eq_true] at hd
    simp only[cond_true] at h
    split at h
    ·rename_i ps1 v m1 he
     cases hm:allDead m1&&Nat.beq m1.length (List.replicate m.length Root.dead).length with
     |false=>rw[hm] at h;cases h
     |true=>
     rw[hm] at h
     simp only[Bool.and_eq_true] at hm
     simp only[cond_true] at h
     split at h
     ·rename_i qs s1 hr
      simp only[Option.some.injEq,Prod.mk.injEq] at h
      obtain⟨rfl,rfl⟩:=h
      obtain⟨hp1,hp2⟩:=hp.app
      refine WA.takeD ho b2 b3 hg hd.1 (evalOp_q hT hd.2 he hp1) ?_ (WA.takesD' hT b4 hr hp2 hk)
      rw[allDead_eq hm.1,Nat.eq_of_beq_eq_true hm.2,List.length_replicate]
     ·cases h
    ·cases h
  ·cases h
theorem WA.takesD(T:TyEnv)(wm:Bool)(hT:TOK P T)(is:List Nat){fuel f':Nat}{listed listed':Array Bool}{fr fr':Nat->Dat}{m:List Root}{ps:List Prop}{l:List Oper}(hB:takesWB l.toArray is listed=true)(hI:incr is 0=true)(h:evD T wm N l.toArray (List.replicate m.length .dead) (pickI is 0 l) fr=some (ps,fr'))(hp:AllP ps)
  (hl:takesL is listed=listed') (hf:Nat.beq (f'+is.length) fuel=true) (k:WA P N K l.toArray Q n f' listed' ⟨fr',m⟩):WA P N K l.toArray Q n fuel listed ⟨fr,m⟩:=by
 subst hl
 rw[<-Nat.eq_of_beq_eq_true hf]
 rw[pickI_eq l.toArray l is 0 (λ k=>by simp) hI] at h
 exact WA.takesD' hT hB h hp k
theorem WA.end{fuel:Nat}{listed:Array Bool}{s:St}(hf:fuel=0)(hr:Region.ready .any ops listed=[])(k:NoPan Q .normal s):WA P N K ops Q n fuel listed s:=by
 subst hf
 intro hns hclo ρ a w hrel
 refine⟨hr,?_⟩
 obtain⟨g1,g2⟩:=k
 exact⟨g1,ρ,s,hrel,TrK.refl _ _ _ _,g2⟩
end
end Go.Proofs.YthjnmlpibafbnaaGreat.DM
namespace Go.Proofs.YthjnmlpibafbnaaGreat.DM
open Go.RowKit
set_option linter.unusedVariables false
set_option linter.unusedSimpArgs false
theorem AllP.append{p:Prop}:∀{l:List Prop},AllP l->p->AllP (l++[p])
 |[],_,h=>h
 |[a],ha,h=>⟨ha,h⟩
 |a::b::l,⟨h1,h2⟩,h=>⟨h1,AllP.append (l:=b::l) h2 h⟩
section
variable {P:Program}{T:TyEnv}{N K:Nat}{Q:Exit->St->Prop}{fr:Nat->Dat}{m m' m0:List Root}{f:FuncId}{xs:List Dat}
def NormE(k:Nat)(Qf:Dat->List Root->Prop)(r:Dat)(m:List Root):Prop:=∃r0 m1,Qf r0 m1/\Norm k r0 m1 r m
theorem FnS.normE{Qf:Dat->List Root->Prop}(h:FnS P f xs m0 (NormE m0.length Qf)):FnS P f xs m0 Qf:=by
 refine⟨h.enter,λ ρ w hr hx=>(h.calls ρ w hr hx).mono ?_⟩
 rintro e w' ⟨r,ρ1,m',rfl,h2,h3,h4,h5,r0,m1,hQ,τ,ht,hren,hsc⟩
 refine⟨r0,λ j=>ρ1 (τ j),m1,by rw[renD_enc hren],hsc,renD_ok hren h3,h4.taken ht,?_,hQ⟩
 have hcut:TrK m0.length ρ1 m' w' (λ j=>ρ1 (τ j)) m1 w':=by
  refine⟨rfl,rfl,Nat.le_refl _,rfl,Nat.le_refl _,λ r hr=>by simp only[ht.fix r hr],λ _ _ _=>rfl,λ r R q h1 h2 h3=>.inr ?_,λ r R q h1 h2 h3=>.inr ?_⟩
  ·rcases ht.get r R h1 with rfl|⟨R0,h4,h5,_⟩
   ·cases h2
   ·exact⟨_,R0,q,h4,h5.mine h2,h5.atO h3,rfl⟩
  ·rcases ht.get r R h1 with rfl|⟨R0,h4,h5,_⟩
   ·exact absurd rfl h2.ne
   ·exact⟨_,R0,q,h4,h5.at h2,h3,rfl⟩
 exact((h5.toK (Nat.le_refl _)).trans hcut).full ht.len
theorem FnS.intoE(T:TyEnv)(hT:TOK P T){fn:Func}{c:Code}{l:List ResultVar}{Qf:Dat->List Root->Prop}(hf:P.funcs[f]? =some fn)(hn:(fn.name== "runtime.NumGoroutine")=false)(hb:fn.body=some c)
  (hl:fn.results=l.toArray) (hk:fn.ntmps=N) (hN:xs.length<=N) (h:WP P N m0.length c (Ends T l (NormE m0.length Qf)) ⟨nthD xs,m0⟩):FnS P f xs m0 Qf:=
 (FnS.into T hT hf hn hb hl hk hN h).normE
theorem Ends.newE{e:Exit}{l:List ResultVar}{k:Nat}{r:Dat}{Qf:Dat->List Root->Prop}{ps:List Prop}(ts:List Nat){r0:Dat}{m1:List Root}(hQ:Qf r0 m1)(he:e=.ret\/e=.normal)(h:resE T fr m l=some (ps,r))(hp:AllP ps)(ht:LeAll k m ts m1)(hd:distinct ts=true)(hs:startsWith k 0 ts=true)(hr:renD (tauOf ts) r0 r)(hsc:Sc m1.length r0):
 Ends T l (NormE k Qf) e ⟨fr,m⟩:=⟨he,ps,r,h,hp,r0,m1,hQ,_,Taken.of ts ht hd hs,hr,hsc⟩
theorem TK.ofOK{o:Oper}{v:Dat}(h:OpOK P o fr m v m'):TK P o fr m v m':=by
 intro N ρ a w hf hr Kc Q' hK
 obtain⟨ρ1,w1,nx1,g1,g2,g3,g4⟩:=h N ρ a w hf hr
 unfold Oper.wp
 rw[g1]
 rcases g2 with⟨u,rfl,hu⟩|⟨rfl,rfl⟩
 ·exact hK ρ1 u w1 hu g3 g4
 ·exact hK ρ1 undef w1 (.inl rfl) g3 g4
theorem load_own(hT:TOK P T){o:Oper}{t:TypeId}{x:Operand}{r j off:Nat}{q:List Nat}{R:Root}{e0 by0 e n s:Nat}{z0:Dat}{f:Nat->Dat}{ps:List Prop}(ho:o.op=.load t x)(hx:ev fr x=.p r (j::q) off)(ht:T t=some ⟨.slice e0,1,by0,z0⟩)(hR:m[r]? =some R)(hm:R.mine=true)
  (hn:R.navE (j::q)=some (ps,.ow e n s f)) (he:Nat.beq e 0=false) (hp:AllP ps) (hoff:R.offA (j::q)=off):QOK P o fr m (.sl m.length 0 n s) (m.set r (R.upd (j::q) (.sl m.length 0 n s))++[.row e n s f]):=by
 have hp':AllP (ps++[R.offA (j::q)=off]):=AllP.append hp hoff
 refine ok_loadS hT (ps:=ps++[R.offA (j::q)=off]) ho ?_ hp'
 unfold loadS
 rw[hx,ht]
 simp only[hR,hn,hm,he,Bool.not_true,Bool.or_false,Bool.and_false,cond_false,Bool.not_false,Bool.and_true,show Nat.beq 1 1=true from rfl,cond_true,fL_eq]
theorem load_nil(hT:TOK P T){o:Oper}{t:TypeId}{x:Operand}{r j off:Nat}{q:List Nat}{R:Root}{e0 by0:Nat}{z0:Dat}{ps:List Prop}(ho:o.op=.load t x)(hx:ev fr x=.p r (j::q) off)(ht:T t=some ⟨.slice e0,1,by0,z0⟩)(hR:m[r]? =some R)
  (hn:R.navE (j::q)=some (ps,.ns)) (hp:AllP ps) (hoff:R.offA (j::q)=off):QOK P o fr m .ns m:=by
 refine ok_load hT (ps:=ps++[R.offA (j::q)=off]) ho ?_ (AllP.append hp hoff)
 unfold loadE
 rw[hx,ht]
 simp only[hR,hn,fit,Ty.agg,isScalar,plE,show Nat.beq 1 1=true from rfl,Bool.and_true,cond_true]
theorem store_slot(hT:TOK P T){o:Oper}{t:TypeId}{x y:Operand}{r off:Nat}{q:List Nat}{R:Root}{e0 by0:Nat}{z0 v old:Dat}{ps:List Prop}(ho:o.op=.store t x y)(hx:ev fr x=.p r q off)(hy:ev fr y=v)(ht:T t=some ⟨.slice e0,1,by0,z0⟩)(hR:m[r]? =some R)(hm:R.mine=true)
  (hn:R.navE q=some (ps,old)) (ho2:isScalar old=true) (hv:isScalar v=true) (hp:AllP ps) (hoff:R.offA q=off):OpOK P o fr m .un (m.set r (R.upd q v)):=by
 refine ok_store hT (ps:=ps++[R.offA q=off]) ho ?_ (AllP.append hp hoff)
 unfold storeE
 rw[hx,hy,ht]
 simp only[hR,hm,hn,fit,Ty.agg,ho2,hv,show Nat.beq 1 1=true from rfl,Bool.and_true,Bool.or_true,cond_true]
theorem WPL.callE{ops:Array Oper}{dst:Tmp}{args:List Operand}{tys:Array TypeId}{t:TypeId}{pos:String}{after:Array Edge}{gg:Option (Nat×Bool)}{rest:List Oper}(ts:List Nat){Qf:Dat->List Root->Prop}(h:FnS P f xs m0 Qf)
  (hl:LeAll 0 m ts m0) (hk:sameKind m ts m0=true) (hdi:distinct ts=true) (hx:ArgsR (tauOf ts) fr xs args) (hg:gd ops { dst:=some dst,op:=.call { callee:=.value (.func f),args:=args.toArray,argTypes:=tys },type:=t,pos:=pos,after:=after,guard:=gg } fr=some true) (hd:Nat.blt dst N=true) (hsc:∀x∈xs,Sc m0.length x)
  (k:∀r m1,Qf r m1->AllC0 m1/\∃r',renD (invT ts m.length) r r'/\Sc (putBack m ts m0 m1).length r'/\WPL P N K ops Q rest ⟨fup fr dst r',putBack m ts m0 m1⟩):
  WPL P N K ops Q ({ dst:=some dst,op:=.call { callee:=.value (.func f),args:=args.toArray,argTypes:=tys },type:=t,pos:=pos,after:=after,guard:=gg }::rest) ⟨fr,m⟩:=
 WPL.callG ts h hl (.inl hk) hdi hx hg hd hsc k
end
end Go.Proofs.YthjnmlpibafbnaaGreat.DM
namespace Go.Proofs.YthjnmlpibafbnaaGreat.DM
open Go.RowKit
set_option linter.unusedVariables false
set_option linter.unusedSimpArgs false
section
variable {P:Program}{T:TyEnv}{fr:Nat->Dat}{m m':List Root}{v:Dat}{ps:List Prop}{wm:Bool}
theorem app_keep{P:Program}{t ty e:TypeId}{i:TI}(hu:P.underlying t=some (.slice e))(hk:i.ok P e)(hby:i.bytes<=4096){ρ:Rho}{w:World}(h:Rep ρ m w){r n n':Nat}{f:Nat->Dat}{r2 off len n2:Nat}{R2:Root}{f2:Nat->Dat}{m1:List Root}{vb:Value}
  (hbase:(n=0/\vb=.slice none 0 0/\0<len/\m1=m)\/(m[r]? =some (.row e n' i.sz f)/\n<=n'/\r≠r2/\vb=(ρ r []).slice 0 n i.sz/\m1=m.set r .dead))
  (hR2:m[r2]? =some R2) (he2:R2.elems=some (n2,i.sz,f2)) (hlen:off+len<=n2) (hb:n+len<=4294967296) (hpl:∀j,j<n2->NoOwn (f2 j)):
  ∃ρ' w',(Builtin.append_ #[t,t] ty #[vb,(ρ r2 []).slice off len i.sz]).run P w=.ok (enc ρ' (.sl m.length 0 (n+len) i.sz)) w'/\Rep ρ' (m1++[.row e (n+len) i.sz (apF n f off f2)]) w'/\Tr ρ m w ρ' (m1++[.row e (n+len) i.sz (apF n f off f2)]) w':=by
 obtain⟨⟨e2,hcon2⟩,hro2⟩:=h.elems hR2 he2
 have hwf2:=h.wf r2 R2 _ hR2 hcon2
 have hw2:WF (.ar n2 i.sz f2):=hwf2.1
 have hw2':WF (.ar len i.sz λ j=>f2 (off+j)):=λ j hj=>hw2 (off+j) (by omega)
 let A2:List Nat->RV:=λ z=>match z with
  |[]=>default
  |k::z=>ρ r2 ((off+k)::z)
 --the base
 have hbase2:∃xs,w.ownsRow 0 e i.sz vb n xs/\xs=cells ρ (ρ r) (.ar n i.sz f)/\(NilV vb->0<len)/\(∀b,vb.ownBlock=some b->m[r]? =some (.row e n' i.sz f)/\n<=n'/\r≠r2/\(ρ r []).b=b/\∀X,m1[r]? =some X->X=.dead)/\
   (∀j,j<n->sz (f j)=i.sz/\WF (f j)/\Sc m.length (f j))/\(0<n->m[r]? =some (.row e n' i.sz f)/\n<=n'/\r≠r2/\∀X,m1[r]? =some X->X=.dead):=by
  rcases hbase with⟨rfl,rfl,h2,h3⟩|⟨h1,h2,h3,h4,h5⟩
  ·refine⟨[],World.ownsRow_nil w 0 e i.sz,by simp[cells],λ _=>h2,(λ b hb=>by cases hb),(λ j hj=>by omega),(λ hj=>by omega)⟩
  ·have hwf:=h.wf r _ _ h1 rfl
   have hrow:=(h.row r _ _ [] e n' i.sz f h1 rfl rfl rfl (.inl rfl)).pre hwf.1 h2 (λ _ _=>rfl)
   have hd:∀X,m1[r]? =some X->X=.dead:=by
    intro X hX
    rw[h5,List.getElem?_set_self (List.getElem?_eq_some_iff.1 h1).1] at hX
    exact(Option.some.inj hX).symm
   obtain⟨blk,g1,g2,g3,g4,g5,g6,g7⟩:=hrow
   have hv:vb=.slice (some ⟨(ρ r []).b,0,none⟩) n (ρ r []).cap:=by
    rw[h4];unfold RV.slice;rw[g3];simp only[Nat.zero_mul,Nat.add_zero,Nat.sub_zero,g2]
   refine⟨cells ρ (ρ r) (.ar n i.sz f),⟨cells_length ρ _ _ (λ j hj=>hwf.1 j (by omega)),.inr ⟨(ρ r []).b,_,blk,hv,Nat.zero_le _,g1,g4,g5,g6,g7⟩⟩,rfl,λ hn=>?_,λ b hb=>?_,λ j hj=>?_,λ _=>⟨h1,h2,h3,hd⟩⟩
   ·rw[hv] at hn;cases hn
   ·rw[hv] at hb
    exact⟨h1,h2,h3,Option.some.inj hb,hd⟩
   ·exact⟨(hwf.1 j (by omega)).1,(hwf.1 j (by omega)).2,hwf.2 j (by omega)⟩
 obtain⟨xs,hown,hxs,hnn,hblkb,hbw,hbr⟩:=hbase2
 have hm1l:m1.length=m.length:=by rcases hbase with⟨_,_,_,h3⟩|⟨_,_,_,_,h3⟩<;>rw[h3]<;>simp
 have hm1:∀(j:Nat) (R:Root),m1[j]? =some R->R=.dead\/m[j]? =some R:=by
  rcases hbase with⟨_,_,_,h3⟩|⟨_,_,_,_,h3⟩
  ·rw[h3];exact λ j R hj=>.inr hj
  ·rw[h3]
   refine λ j R hj=>?_
   rcases set_get hj with⟨_,rfl,_⟩|⟨_,hj⟩
   ·exact .inl rfl
   ·exact .inr hj
 have hnl:(cells ρ A2 (.ar len i.sz λ j=>f2 (off+j))).length=len*i.sz:=cells_length ρ _ _ hw2'
 obtain⟨g,cap,w',hrun,hown',hgrow,hg⟩:=app_run (P:=P) (t:=t) (ty:=ty) hu hk hby hown hnn (ρ r2 []) off hnl
  (λ hz j u hj=>by
   rcases hro2 with⟨hz',_⟩|⟨_,_,_,_,hc⟩
   ·rw[hz] at hz';cases hz'
   ·have:=hc _ u (cells_mid hw2 hlen hj)
    rwa [<-Nat.add_assoc] at this)
  (λ hz=>by
   rcases hro2 with⟨_,hz'⟩|⟨hz',_⟩
   ·omega
   ·rw[hz] at hz';cases hz')
  (cells_one _ _ hw2') hb
 let A:List Nat->RV:=λ z=>match z with
  |[]=>⟨false,g,0,cap,none,0⟩
  |k::z=>if k<n then ρ r (k::z) else ρ r2 ((off+(k-n))::z)
 have apl:∀{k:Nat},k<n->apF n f off f2 k=f k:=λ hk=>by unfold apF;rw[show Nat.blt _ n=true from by rw[Nat.blt_eq];exact hk];rfl
 have apr:∀{k:Nat},¬k<n->apF n f off f2 k=f2 (off+(k-n)):=λ{k} hk=>by unfold apF;rw[show Nat.blt k n=false from by cases hh:Nat.blt k n with|false=>rfl|true=>rw[Nat.blt_eq] at hh;exact absurd hh hk];rfl
 have hall:xs++cells ρ A2 (.ar len i.sz λ j=>f2 (off+j))=cells ρ A (.ar (n+len) i.sz (apF n f off f2)):=by
  rw[hxs]
  simp only[cells]
  rw[List.range_add,List.flatMap_append,List.flatMap_map]
  congr 1
  ·apply flatMap_congr
   intro k hk
   have hk:=List.mem_range.1 hk
   rw[apl hk]
   congr 1
   funext z
   simp only[A,if_pos hk]
  ·apply flatMap_congr
   intro k hk
   have hk:=List.mem_range.1 hk
   rw[apr (k:=n+k) (by omega),show n+k-n=k by omega]
   congr 1
   funext z
   simp only[A,A2,if_neg (show¬n+k<n by omega),show n+k-n=k by omega]
 have hwn:WF (.ow e (n+len) i.sz (apF n f off f2)):=by
  intro k hk
  by_cases hkn:k<n
  ·rw[apl hkn];exact⟨(hbw k hkn).1,(hbw k hkn).2.1⟩
  ·rw[apr hkn];exact hw2 _ (by omega)
 have hsn:Sc m.length (.ow e (n+len) i.sz (apF n f off f2)):=by
  intro k hk
  by_cases hkn:k<n
  ·rw[apl hkn];exact(hbw k hkn).2.2
  ·rw[apr hkn];exact hwf2.2 _ (by omega)
 have hrow:RowOK ρ w' (A []) A e (n+len) i.sz (apF n f off f2):=by
  rcases hown'.2 with⟨h1,_⟩|⟨g',cap',cur,h1,_,h3,h4,h5,h6,h7⟩
  ·cases h1
  ·cases h1
   exact⟨cur,h3,rfl,rfl,h4,h5,h6,by rw[h7,hall]⟩
 have hres:=h.pushRow hm1l hm1 hgrow (run_drawn _ _ hrun) (λ b hb'=>by
   obtain⟨h1,_,_,h4,h5⟩:=hblkb b hb'
   exact⟨r,_,h1,rfl,rfl,h4,h5⟩) A hrow (hg.imp id id)
  (λ q=>match q with
   |[]=>(0,[])
   |k::z=>if k<n then(r,k::z) else(r2,(off+(k-n))::z)) ?_ ?_ hwn hsn
 ·refine⟨_,w',?_,hres.1,hres.2⟩
  rw[hrun]
  simp only[enc,leaf,ext_same,RV.slice,A,Nat.zero_mul,Nat.add_zero,Nat.sub_zero]
 ·intro q e' n0 s' f' hq hx
  cases q with
  |nil=>exact absurd rfl hq
  |cons k z=>
   simp only[nav] at hx
   split at hx
   ·rename_i hkl
    by_cases hkn:k<n
    ·obtain⟨h1,h2,h3,h4⟩:=hbr (by omega)
     rw[apl hkn] at hx
     simp only[if_pos hkn]
     refine⟨_,_,h1,rfl,?_,by simp,λ y=>?_,λ _=>⟨rfl,h4⟩⟩
     ·simp only[nav,if_pos (show k<n' by omega)];exact hx
     ·simp only[A,List.cons_append,if_pos hkn]
    ·rw[apr hkn] at hx
     simp only[if_neg hkn]
     refine⟨R2,_,hR2,hcon2,?_,by simp,λ y=>?_,λ he'=>?_⟩
     ·simp only[nav,if_pos (show off+(k-n)<n2 by omega)];exact hx
     ·simp only[A,List.cons_append,if_neg hkn]
     ·exact absurd (NoOwn_nav (hpl _ (by omega)) hx).1 he'
   ·cases hx
 ·intro q q' e' n0 s' f' d' hq hq' hx he hx' hsrc
  cases q with
  |nil=>exact absurd rfl hq
  |cons k z=>
   cases q' with
   |nil=>exact absurd rfl hq'
   |cons k' z'=>
    have hk1:k<n->r≠r2:=λ hk=>(hbr (by omega)).2.2.1
    have hk2:k'<n->r≠r2:=λ hk=>(hbr (by omega)).2.2.1
    by_cases h1:k<n<;>by_cases h2:k'<n<;>simp only[h1,h2,if_true,if_false,Prod.mk.injEq,List.cons.injEq] at hsrc
    ·obtain⟨_,rfl,rfl⟩:=hsrc;rfl
    ·exact absurd hsrc.1 (hk1 h1)
    ·exact absurd hsrc.1.symm (hk2 h2)
    ·obtain⟨_,h3,rfl⟩:=hsrc
     rw[show k=k' by omega]
theorem pl_noOwn:∀{d:Dat},Pl d->NoOwn d:=by
 intro d
 induction d with
 |ar k s f ih=>exact λ h i hi=>ih i (h i hi)
 |st k f ih=>exact λ h i hi=>ih i (h i hi)
 |ow=>exact λ h=>h.elim
 |_=>exact λ _=>trivial
theorem ok_app_keepN(hT:TOK P T){o:Oper}{t:TypeId}{x y:Operand}{e sz0 by0:Nat}{z0:Dat}{r n n' r2 off len n2 s:Nat}{f f2:Nat->Dat}{i:TI}{R2:Root}(ho:o.op=.call { callee:=.builtin .append,args:=#[x,y],argTypes:=#[t,t] })(hx:ev fr x=.sl r 0 n s)(hy:ev fr y=.sl r2 off len s)(ht:T t=some ⟨.slice e,sz0,by0,z0⟩)(hi:T e=some i)(hs:i.sz=s)(hby:i.bytes<=4096)(hr0:m[r]? =some (.row e n' s f))(hR2:m[r2]? =some R2)(he2:R2.elems=some (n2,s,f2))(hne:r≠r2)(hpl:∀j,j<n2->NoOwn (f2 j))(hn:n<=n')(hl:off+len<=n2)(hb:n+len<=4294967296){k:Nat}(hk':n+len=k){mm:List Root}(hm:m.set r .dead++[.row e k s (apF n f off f2)]=mm):
  OpOK P o fr m (.sl m.length 0 k s) mm:=by
 subst hs;subst hk';subst hm
 have hk:=hT e i hi
 have hu:=(hT t _ ht).fits
 simp only[Ty.fits] at hu
 intro N ρ a w hf hr
 obtain⟨h0,_⟩:=ev_eq hf hx (by simp)
 obtain⟨h0',_⟩:=ev_eq hf hy (by simp)
 obtain⟨ρ',w',g1,g2,g3⟩:=app_keep (P:=P) (t:=t) (ty:=o.type) hu hk hby hr (.inr ⟨hr0,hn,hne,rfl,rfl⟩) hR2 he2 hl hb hpl
 refine⟨ρ',w',_,?_,.inl ⟨_,rfl,.inr ⟨rfl,by simp[Sc],trivial,trivial⟩⟩,g2,g3⟩
 simp only[enc,leaf] at h0 h0' g1 ⊢
 simp[execOp,ho,resolve,invoke,builtin,h0,h0',g1,Result.andThen]
theorem ok_app_keep(hT:TOK P T){o:Oper}{t:TypeId}{x y:Operand}{e sz0 by0:Nat}{z0:Dat}{r n n' r2 off len n2 s:Nat}{f f2:Nat->Dat}{i:TI}{R2:Root}(ho:o.op=.call { callee:=.builtin .append,args:=#[x,y],argTypes:=#[t,t] })(hx:ev fr x=.sl r 0 n s)(hy:ev fr y=.sl r2 off len s)(ht:T t=some ⟨.slice e,sz0,by0,z0⟩)(hi:T e=some i)(hs:i.sz=s)(hby:i.bytes<=4096)(hr0:m[r]? =some (.row e n' s f))(hR2:m[r2]? =some R2)(he2:R2.elems=some (n2,s,f2))(hne:r≠r2)(hpl:∀j,j<n2->Pl (f2 j))(hn:n<=n')(hl:off+len<=n2)(hb:n+len<=4294967296){k:Nat}(hk':n+len=k){mm:List Root}(hm:m.set r .dead++[.row e k s (apF n f off f2)]=mm):
 OpOK P o fr m (.sl m.length 0 k s) mm:=ok_app_keepN hT ho hx hy ht hi hs hby hr0 hR2 he2 hne (λ j hj=>pl_noOwn (hpl j hj)) hn hl hb hk' hm
end
end Go.Proofs.YthjnmlpibafbnaaGreat.DM
namespace Go.Proofs.YthjnmlpibafbnaaGreat.DM
open Go.RowKit
set_option linter.unusedVariables false
set_option linter.unusedSimpArgs false
section
variable {P:Program}{T:TyEnv}{N K:Nat}{Q:Exit->St->Prop}{ops:Array Oper}{n:Nat}
def MKE(P:Program)(o:Oper)(fr:Nat->Dat)(m:List Root)(G:Dat->List Root->Prop):Prop:=
 ∀(N:Nat) (ρ:Rho) (a:Act) (w:World),Frm m.length ρ N fr a.tmps->Rep ρ m w->∀(Kc:Act->World->Prop) (Q':Exit->Act->World->Prop),
  (∀ρ' u w' v m',G v m'->Holds m'.length ρ' v u->Rep ρ' m' w'->Tr ρ m w ρ' m' w'->BelowD w.heap.size w w'->Kc (a.put o.dst u) w')->o.wp P a w Kc Q'
theorem MKE.of{o:Oper}{fr:Nat->Dat}{m m':List Root}{v:Dat}(h:MK P o fr m v m'):MKE P o fr m λ x y=>x=v/\y=m':=by
 intro N ρ a w hf hr Kc Q' hK
 exact h N ρ a w hf hr Kc Q' λ ρ' u w' h1 h2 h3 h4=>hK ρ' u w' v m' ⟨rfl,rfl⟩ h1 h2 h3 h4
theorem MKE.call{dst:Tmp}{args:List Operand}{tys:Array TypeId}{t:TypeId}{pos:String}{after:Array Edge}{gg:Option (Nat×Bool)}{f:FuncId}{xs:List Dat}{fr:Nat->Dat}{m m0:List Root}{Qf G:Dat->List Root->Prop}(ts:List Nat)(h:FnS P f xs m0 Qf)
  (hl:LeAll 0 m ts m0) (hn:noMine m0=true) (ho:sameKind m ts m0=true\/∀r m1,Qf r m1->OwnNew m0.length m1) (hdi:distinct ts=true) (hx:ArgsR (tauOf ts) fr xs args) (hsc:∀x∈xs,Sc m0.length x)
  (hc:∀r m1,Qf r m1->AllC0 m1/\∃r',renD (invT ts m.length) r r'/\Sc (putBack m ts m0 m1).length r'/\G r' (putBack m ts m0 m1)):
  MKE P { dst:=some dst,op:=.call { callee:=.value (.func f),args:=args.toArray,argTypes:=tys },type:=t,pos:=pos,after:=after,guard:=gg } fr m G:=by
 intro N ρ a w hfr hrep Kc Q' hK
 obtain⟨h1,h2⟩:=hx.eval hfr
 have h0:a.eval (.func f)=.func (.func f) #[] #[]:=rfl
 unfold Oper.wp
 rw[call_run rfl h0 (FnS.enter h)]
 simp only[Oper.upon]
 rw[show args.toArray.map a.eval=(xs.map (enc λ r=>ρ (tauOf ts r))).toArray by rw[<-h1];simp]
 refine(FnS.calls h _ w (hrep.taken (Taken.view ts hl (by rw[hdi];simp))) (λ x hx=>⟨hsc x hx,h2 x hx⟩)).mono ?_
 rintro e w' ⟨r,ρ1,m1',rfl,h3,h4,h5,h6,h7⟩
 obtain⟨c1,r',c2,c3,c4⟩:=hc r m1' h7
 obtain⟨g1,g2,g3⟩:=hrep.call ts hl (ho.imp id λ h=>⟨hn,h r m1' h7⟩) hdi h5 h6 c1.get
 refine hK _ _ w' r' _ c4 (.inr ⟨?_,c3,renD_ok' c2 h4⟩) g1 g2 (h6.below λ r R h=>noMine_get hn h)
 rw[renD_enc c2]
 exact(enc_congr (n:=m1'.length) (λ j hj=>g3 j hj) r h3).symm
theorem TK.callN{dst:Tmp}{args:List Operand}{tys:Array TypeId}{t:TypeId}{pos:String}{after:Array Edge}{gg:Option (Nat×Bool)}{f:FuncId}{xs:List Dat}{fr:Nat->Dat}{m m0 m1:List Root}(ts:List Nat){r0:Dat}(r':Dat)(h:FnS P f xs m0 λ r m'=>r=r0/\m'=m1)
  (hl:LeAll 0 m ts m0) (hk:sameKind m ts m0=true) (hdi:distinct ts=true) (hx:ArgsR (tauOf ts) fr xs args) (hsc:∀x∈xs,Sc m0.length x)
  (hc:AllC0 m1) (hr:renD (invT ts m.length) r0 r') (hs:Sc (putBack m ts m0 m1).length r') {mm:List Root}(hm:putBack m ts m0 m1=mm):
  TK P { dst:=some dst,op:=.call { callee:=.value (.func f),args:=args.toArray,argTypes:=tys },type:=t,pos:=pos,after:=after,guard:=gg } fr m r' mm:=by
 subst hm
 intro N ρ a w hfr hrep Kc Q' hK
 obtain⟨h1,h2⟩:=hx.eval hfr
 have h0:a.eval (.func f)=.func (.func f) #[] #[]:=rfl
 unfold Oper.wp
 rw[call_run rfl h0 (FnS.enter h)]
 simp only[Oper.upon]
 rw[show args.toArray.map a.eval=(xs.map (enc λ r=>ρ (tauOf ts r))).toArray by rw[<-h1];simp]
 refine(FnS.calls h _ w (hrep.taken (Taken.view ts hl (by rw[hdi];simp))) (λ x hx=>⟨hsc x hx,h2 x hx⟩)).mono ?_
 rintro e w' ⟨r,ρ1,m1',rfl,h3,h4,h5,h6,rfl,rfl⟩
 obtain⟨g1,g2,g3⟩:=hrep.call ts hl (.inl hk) hdi h5 h6 hc.get
 refine hK _ _ w' (.inr ⟨?_,hs,renD_ok' hr h4⟩) g1 g2
 rw[renD_enc hr]
 exact(enc_congr (n:=m1'.length) (λ j hj=>g3 j hj) r h3).symm
def WAE1(P:Program)(N K:Nat)(ops:Array Oper)(Q:Exit->St->Prop)(n fuel:Nat)(listed:Array Bool)(fr:Nat->Dat)(m:List Root)(i:Nat):Prop:=
 ∃o G,ops[i]? =some o/\gd ops o fr=some true/\dstOK N o.dst=true/\MKE P o fr m G/\∀v m',G v m'->WA P N K ops Q n fuel (listed.setIfInBounds i true) ⟨putO fr o.dst v,m'⟩
theorem WA.allE{fuel:Nat}{listed:Array Bool}{fr:Nat->Dat}{m:List Root}(rs:List Nat)(hr:Region.ready .any ops listed=rs)(hne:rs≠[])(h:∀i∈rs,WAE1 P N K ops Q n fuel listed fr m i):WA P N K ops Q n (fuel+1) listed ⟨fr,m⟩:=by
 intro hns hclo ρ a w ⟨hfr,hdf,hrep,hK⟩
 refine⟨λ h0=>absurd (hr▸h0) hne,λ i hi=>?_⟩
 obtain⟨o,G,ho,hg,hd,hmk,k⟩:=h i (hr▸hi)
 unfold wpOp
 simp only[ho]
 rw[if_pos (gd_wanted hg hfr)]
 refine .inl (hmk N ρ a w hfr hrep _ _ λ ρ' u w' v m' hG hu hr' htr hb=>⟨λ _=>hb,?_⟩)
 have hreg':=k v m' hG hns (hclo.ready hi) ρ' (a.put o.dst u) w' ⟨(hfr.tr htr).putO hd hu,by rw[put_defers];exact hdf,hr',Nat.le_trans hK htr.len⟩
 exact wpAnyS_mono (PostA.tr (s:=⟨fr,m⟩) (s1:=⟨putO fr o.dst v,m'⟩) (htr.toK hK)) _ _ _ _ hreg'
end
section
variable {P:Program}{N K:Nat}{Q:Exit->St->Prop}
theorem WP.seqG{x y:Code}{s:St}(s1:St)(h:WP P N K x (Then (λ s'=>Ghost K s' s1) Q) s)(k:WP P N K y Q s1):WP P N K (.seq x y) Q s:=by
 refine WP.seq (h.mono ?_)
 intro e s' h
 cases e with
 |normal=>exact WP.ghost h k
 |_=>exact h
end
end Go.Proofs.YthjnmlpibafbnaaGreat.DM
namespace Go.Proofs.YthjnmlpibafbnaaGreat.DM
open Go.RowKit
set_option linter.unusedVariables false
set_option linter.unusedSimpArgs false
def RefR(τ:Nat->Nat)(n:Nat):Dat->Dat->Prop
 | .p r q o,d=>d=.p (τ r) q o/\r<n
 | .sl r a b c,d=>d=.sl (τ r) a b c/\r<n
 |_,_=>False
def renC(τ:Nat->Nat):Dat->Dat->Prop
 | .p r q o,d=>d=.p (τ r) q o
 | .sl r a b c,d=>d=.sl (τ r) a b c
 | .tup n f,d=>∃f',d=.tup n f'/\∀i,i<n->renC τ (f i) (f' i)
 | .fn g n f,d=>∃f',d=.fn g n f'/\∀i,i<n->RefR τ (τ 0+1000000) (f i) (f' i)
 |d',d=>d=d'/\Sc 0 d
theorem RefR.leaf{τ:Nat->Nat}{n:Nat}{ρ:Rho}{A B:List Nat->RV}:∀{v v0:Dat},RefR τ n v v0->leaf ρ A v0=leaf (λ r=>ρ (τ r)) B v
 | .p r q o,_,⟨h,_⟩=>by rw[h];rfl
 | .sl r a b c,_,⟨h,_⟩=>by rw[h];rfl
theorem RefR.cells{τ:Nat->Nat}{n:Nat}{ρ:Rho}{A B:List Nat->RV}:∀{v v0:Dat},RefR τ n v v0->cells ρ A v0=cells (λ r=>ρ (τ r)) B v
 | .p r q o,_,⟨h,_⟩=>by rw[h];rfl
 | .sl r a b c,_,⟨h,_⟩=>by rw[h];rfl
theorem RefR.nav{τ:Nat->Nat}{n:Nat}{q:List Nat}{e k s:Nat}{f:Nat->Dat}:∀{v v0:Dat},RefR τ n v v0->nav v q≠some (.ow e k s f)
 | .p r q' o,_,_=>by cases q<;>simp[DM.nav]
 | .sl r a b c,_,_=>by cases q<;>simp[DM.nav]
structure TakenC(τ:Nat->Nat)(k:Nat)(m m':List Root):Prop where
 get:∀(j:Nat) (R:Root),m'[j]? =some R->R=.dead\/(∃R0,m[τ j]? =some R0/\R0.Le R/\∀d,R.con=some d->Sc k d)\/(∃v v0,R=.var v/\m[τ j]? =some (.var v0)/\RefR τ m'.length v v0)
 inj:∀(i j:Nat) (R R':Root),m'[i]? =some R->m'[j]? =some R'->R.mine=true->R'≠.dead->τ i=τ j->i=j
 fix:∀r,r<k->τ r=r
 len:k<=m'.length
def SlotsC(τ:Nat->Nat)(n:Nat)(fr:Nat->Dat):List (Nat×Dat)->Prop
 |[]=>True
 |(x,v)::l=>(renC τ v (fr x)/\Sc n v)/\SlotsC τ n fr l
theorem SlotsC.cons{τ:Nat->Nat}{n:Nat}{fr:Nat->Dat}{x:Nat}{v:Dat}{l:List (Nat×Dat)}(h1:renC τ v (fr x))(h2:Sc n v)(h3:SlotsC τ n fr l):SlotsC τ n fr ((x,v)::l):=⟨⟨h1,h2⟩,h3⟩
section
variable {P:Program}{T:TyEnv}{N K:Nat}{Q:Exit->St->Prop}{fr:Nat->Dat}{m m' m0:List Root}{f:FuncId}{xs:List Dat}
def AllC(τ:Nat->Nat)(n k:Nat)(m:List Root):List Nat->List Root->Prop
 |t::ts,R::l=>(∃R0,m[t]? =some R0/\((R0.Le R/\∀d,R.con=some d->Sc k d)\/∃v v0,R=.var v/\R0=.var v0/\RefR τ n v v0))/\AllC τ n k m ts l
 |[],[]=>True
 |_,_=>False
theorem AllC.cons{τ:Nat->Nat}{n k:Nat}{m:List Root}{t:Nat}{ts:List Nat}{R:Root}{l:List Root}(h:∃R0,m[t]? =some R0/\((R0.Le R/\∀d,R.con=some d->Sc k d)\/∃v v0,R=.var v/\R0=.var v0/\RefR τ n v v0))(h2:AllC τ n k m ts l):AllC τ n k m (t::ts) (R::l):=⟨h,h2⟩
theorem AllC.le{τ:Nat->Nat}{n k:Nat}{m:List Root}{t:Nat}{R0 R:Root}(h:m[t]? =some R0)(h1:R0.Le R)(h2:∀d,R.con=some d->Sc k d):∃R0,m[t]? =some R0/\((R0.Le R/\∀d,R.con=some d->Sc k d)\/∃v v0,R=.var v/\R0=.var v0/\RefR τ n v v0):=⟨R0,h,.inl ⟨h1,h2⟩⟩
theorem AllC.get{τ:Nat->Nat}{n k:Nat}{m:List Root}:∀{ts:List Nat}{l:List Root},AllC τ n k m ts l->ts.length=l.length/\∀{j:Nat}{R:Root},l[j]? =some R->∃R0,m[pickT ts j]? =some R0/\((R0.Le R/\∀d,R.con=some d->Sc k d)\/∃v v0,R=.var v/\R0=.var v0/\RefR τ n v v0)
 |[],[],_=>⟨rfl,λ h=>by simp at h⟩
 |[],_::_,h=>h.elim
 |_::_,[],h=>h.elim
 |t::ts,R::l,⟨h1,h2⟩=>by
  obtain⟨g1,g2⟩:=h2.get
  refine⟨by simp[g1],λ{j X} hj=>?_⟩
  cases j with
  |zero=>simp only[List.getElem?_cons_zero,Option.some.injEq] at hj;subst hj;exact h1
  |succ j=>exact g2 (by simpa using hj)
theorem TakenC.of(ts:List Nat){k:Nat}(h:AllC (tauOf ts) m'.length k m ts m')(hd:distinct ts=true)(hs:startsWith k 0 ts=true):TakenC (tauOf ts) k m m':=by
 obtain⟨g1,g2⟩:=h.get
 obtain⟨f1,f2⟩:=startsWith_get hs
 have hlt:∀{j:Nat}{R:Root},m'[j]? =some R->j<ts.length:=λ h=>by rw[g1];exact(List.getElem?_eq_some_iff.1 h).1
 refine⟨λ j R hj=>.inr ?_,λ i j R R' hi hj _ _ e=>?_,λ r hr=>?_,by omega⟩
 ·obtain⟨R0,h1,h2⟩:=g2 hj
  rw[tauOf_lt (hlt hj)]
  rcases h2 with h2|⟨v,v0,e1,e2,h2⟩
  ·exact .inl ⟨R0,h1,h2⟩
  ·exact .inr ⟨v,v0,e1,by rw[h1,e2],h2⟩
 ·rw[tauOf_lt (hlt hi),tauOf_lt (hlt hj)] at e
  exact distinct_inj hd (hlt hi) (hlt hj) e
 ·rw[tauOf_lt (by omega)]
  have:=f2 (j:=r) (by omega)
  omega
end
end Go.Proofs.YthjnmlpibafbnaaGreat.DM
namespace Go.Proofs.YthjnmlpibafbnaaGreat.DM
open Go.RowKit
set_option linter.unusedVariables false
set_option linter.unusedSimpArgs false
section
variable {P:Program}{N K:Nat}{Q:Exit->St->Prop}
def fH{α:Type}(m:List Root)(k:List Root->α):α:=match m with
 |[]=>k []
 |r::l=>fR r λ r=>k (r::l)
theorem fH_eq{α:Type}:∀(m:List Root) (k:List Root->α),fH m k=k m
 |[],_=>rfl
 |r::l,k=>by rw[fH,fR_eq]
def evG(T:TyEnv)(wm:Bool)(N:Nat)(ops:Array Oper)(l:List Oper)(fr:Nat->Dat)(m:List Root)(acc:List Prop):Option (List Prop×St):=match l with
 |[]=>some (acc,⟨fr,m⟩)
 |o::rest=>match gd ops o fr with
  |some true=>bif dstOK N o.dst then match evalOp T wm o.op fr m with
   |some (ps,v,m')=>fD v λ v=>fH m' λ m'=>match o.dst with
    |some t=>evG T wm N ops rest (fup fr t v) m' (acc++ps)
    |none=>evG T wm N ops rest fr m' (acc++ps)
   |none=>none
   else none
  |some false=>bif dstOK N o.dst then match o.dst with
    |some t=>evG T wm N ops rest (fup fr t .un) m acc
    |none=>evG T wm N ops rest fr m acc
   else none
  |none=>none
theorem evG_eq{T:TyEnv}{wm:Bool}{ops:Array Oper}:∀{l:List Oper}{fr:Nat->Dat}{m:List Root}{acc ps:List Prop}{s':St},evG T wm N ops l fr m acc=some (ps,s')->∃qs,ps=acc++qs/\evalOps T wm N ops l fr m=some (qs,s')
 |[],fr,m,acc,ps,s',h=>by
  simp only[evG,Option.some.injEq,Prod.mk.injEq] at h
  obtain⟨rfl,rfl⟩:=h
  exact⟨[],by simp,rfl⟩
 |o::l,fr,m,acc,ps,s',h=>by
  simp only[evG] at h
  split at h
  ·rename_i hg
   cases hd:dstOK N o.dst with
   |false=>rw[hd] at h;cases h
   |true=>
    rw[hd] at h
    simp only[cond_true] at h
    split at h
    ·rename_i ps1 v m1 he
     rw[fD_eq,fH_eq] at h
     split at h
     ·rename_i t ht
      obtain⟨qs,rfl,h2⟩:=evG_eq h
      refine⟨ps1++qs,by simp,?_⟩
      simp only[evalOps,hg,hd,cond_true,he]
      simp only[putO,ht,h2]
     ·rename_i ht
      obtain⟨qs,rfl,h2⟩:=evG_eq h
      refine⟨ps1++qs,by simp,?_⟩
      simp only[evalOps,hg,hd,cond_true,he]
      simp only[putO,ht,h2]
    ·cases h
  ·rename_i hg
   cases hd:dstOK N o.dst with
   |false=>rw[hd] at h;cases h
   |true=>
    rw[hd] at h
    simp only[cond_true] at h
    split at h
    ·rename_i t ht
     obtain⟨qs,rfl,h2⟩:=evG_eq h
     refine⟨qs,rfl,?_⟩
     simp only[evalOps,hg,hd,cond_true]
     simp only[putO,ht,h2]
    ·rename_i ht
     obtain⟨qs,rfl,h2⟩:=evG_eq h
     refine⟨qs,rfl,?_⟩
     simp only[evalOps,hg,hd,cond_true]
     simp only[putO,ht,h2]
  ·cases h
theorem evG_nil{T:TyEnv}{wm:Bool}{ops:Array Oper}{l:List Oper}{fr:Nat->Dat}{m:List Root}{ps:List Prop}{s':St}(h:evG T wm N ops l fr m []=some (ps,s')):evalOps T wm N ops l fr m=some (ps,s'):=by
 obtain⟨qs,rfl,h2⟩:=evG_eq h
 simpa using h2
theorem WPL.runG{fr:Nat->Dat}{m:List Root}(T:TyEnv)(wm:Bool)(n:Nat)(hT:TOK P T){ops:Array Oper}{l:List Oper}{ps:List Prop}{fr':Nat->Dat}{m':List Root}(h:evG T wm N ops (l.take n) fr m []=some (ps,⟨fr',m'⟩))(hp:AllP ps)
  (k:WPL P N K ops Q (l.drop n) ⟨fr',m'⟩):WPL P N K ops Q l ⟨fr,m⟩:=by
 have:=evalOps_ok (Q:=Q) hT (evG_nil h) hp k
 rwa [List.take_append_drop] at this
theorem WP.runG{fr:Nat->Dat}{m:List Root}(T:TyEnv)(wm:Bool)(hT:TOK P T){id:Nat}{l:List Oper}{ps:List Prop}{fr':Nat->Dat}{m':List Root}(h:evG T wm N l.toArray l fr m []=some (ps,⟨fr',m'⟩))(hp:AllP ps)
  (k:Q .normal ⟨fr',m'⟩):WP P N K (.region id l.toArray false) Q ⟨fr,m⟩:=
 WP.region (by
  have:=evalOps_ok (Q:=Q) (K:=K) (k:=[]) hT (evG_nil h) hp (WPL.nil k)
  rwa [List.append_nil] at this)
theorem WP.rsG{fr:Nat->Dat}{m:List Root}(T:TyEnv)(wm:Bool)(hT:TOK P T){id:Nat}{l:List Oper}{y:Code}{ps:List Prop}{fr':Nat->Dat}{m':List Root}(h:evG T wm N l.toArray l fr m []=some (ps,⟨fr',m'⟩))(hp:AllP ps)
 (k:WP P N K y Q ⟨fr',m'⟩):WP P N K (.seq (.region id l.toArray false) y) Q ⟨fr,m⟩:=WP.seq (WP.runG T wm hT h hp k)
theorem WPL.finG{fr:Nat->Dat}{m:List Root}(T:TyEnv)(wm:Bool)(hT:TOK P T){ops:Array Oper}{l:List Oper}{ps:List Prop}{fr':Nat->Dat}{m':List Root}(h:evG T wm N ops l fr m []=some (ps,⟨fr',m'⟩))(hp:AllP ps)
  (k:Q .normal ⟨fr',m'⟩):WPL P N K ops Q l ⟨fr,m⟩:=by
 have:=evalOps_ok (Q:=Q) (K:=K) (k:=[]) hT (evG_nil h) hp (WPL.nil k)
 rwa [List.append_nil] at this
theorem WQ.runG{fr:Nat->Dat}{m:List Root}(T:TyEnv)(wm:Bool)(n:Nat)(hT:TOK P T){ops:Array Oper}{K:St->Prop}{l:List Oper}{ps:List Prop}{fr':Nat->Dat}{m':List Root}(h:evG T wm N ops (l.take n) fr m []=some (ps,⟨fr',m'⟩))(hq:allQ (l.take n)=true)(hp:AllP ps)
  (k:WQ P N ops K (l.drop n) ⟨fr',m'⟩):WQ P N ops K l ⟨fr,m⟩:=by
 have:=evalOps_q (K:=K) hT hq (evG_nil h) hp k
 rwa [List.take_append_drop] at this
theorem WQ.finG{fr:Nat->Dat}{m:List Root}(T:TyEnv)(wm:Bool)(hT:TOK P T){ops:Array Oper}{K:St->Prop}{l:List Oper}{ps:List Prop}{fr':Nat->Dat}{m':List Root}(h:evG T wm N ops l fr m []=some (ps,⟨fr',m'⟩))(hq:allQ l=true)(hp:AllP ps)
  (k:K ⟨fr',m'⟩):WQ P N ops K l ⟨fr,m⟩:=by
 have:=evalOps_q (K:=K) (k:=[]) hT hq (evG_nil h) hp (WQ.nil k)
 rwa [List.append_nil] at this
theorem WQ.callRF{fr:Nat->Dat}{m m0:List Root}{xs:List Dat}{r:Dat}{f:FuncId}{ops:Array Oper}{Kp:St->Prop}{dst:Tmp}{g:Operand}{args:List Operand}{tys:Array TypeId}{t:TypeId}{pos:String}{after:Array Edge}{gg:Option (Nat×Bool)}{rest:List Oper}(ts:List Nat)(h:FnR P f xs m0 r)(hgv:ev fr g=.fn f 0 (λ _=>.un))(hn:noMine m0=true)
  (hl:LeAll 0 m ts m0) (hx:ArgsR (tauOf ts) fr xs args) (hg:gd ops { dst:=some dst,op:=.call { callee:=.value g,args:=args.toArray,argTypes:=tys },type:=t,pos:=pos,after:=after,guard:=gg } fr=some true) (hd:Nat.blt dst N=true) (hsc:∀x∈xs,Sc m0.length x)
  (hok:Sc 0 r/\Ok r) (k:WQ P N ops Kp rest ⟨fup fr dst r,m⟩):
  WQ P N ops Kp ({ dst:=some dst,op:=.call { callee:=.value g,args:=args.toArray,argTypes:=tys },type:=t,pos:=pos,after:=after,guard:=gg }::rest) ⟨fr,m⟩:=by
 intro ρ a C hfr hdf hC hne
 obtain⟨h1,h2⟩:=hx.eval hfr
 have h0:a.eval g=.func (.func f) #[] #[]:=by rw[(ev_eq hfr hgv (by simp)).1];rfl
 unfold wpQuiet
 rw[if_pos (gd_wanted hg hfr)]
 refine⟨enc ρ r,λ w hw=>?_,?_⟩
 ·unfold Oper.quietAt
  rw[call_run rfl h0 (FnS.enter h)]
  refine⟨rfl,?_⟩
  rw[show args.toArray.map a.eval=(xs.map (enc λ r=>ρ (tauOf ts r))).toArray by rw[<-h1];simp]
  refine(h.calls hn ((hC.rep w hw).taken (Taken.view ts hl (by rw[hn];rfl))) (λ x hx=>⟨hsc x hx,h2 x hx⟩) ρ).mono ?_
  rintro e w' ⟨rfl,h3,h4,h5⟩
  exact⟨rfl,hC.below _ _ hw h5⟩
 ·exact k ρ _ C (hfr.putO (dst:=some dst) hd (.inr ⟨rfl,hok.1.mono (Nat.zero_le _),hok.2⟩)) (by rw[put_defers];exact hdf) hC hne
theorem WPL.skipU{ops:Array Oper}{o:Oper}{rest:List Oper}{fr:Nat->Dat}{m:List Root}(hg:gdF ops o fr=true)(hd:dstOK N o.dst=true)
  (h:WPL P N K ops Q rest ⟨putO fr o.dst unD,m⟩):WPL P N K ops Q (o::rest) ⟨fr,m⟩:=by
 intro ρ a w ⟨hf,hdf,hr,hK⟩
 refine wpList_step λ Kc hKc=>?_
 rw[if_neg (by rw[gdF_wanted hg hf];simp)]
 exact hKc _ _ (h ρ _ w ⟨hf.putO hd (.inr ⟨rfl,λ i hi=>absurd hi (Nat.not_lt_zero _),λ i hi=>absurd hi (Nat.not_lt_zero _)⟩),by rw[put_defers];exact hdf,hr,hK⟩)
def clF(f:Nat->Dat)(off len:Nat)(j:Nat):Dat:=if off<=j/\j<off+len then .ns else f j
theorem scal_cell{ρ:Rho}{A:List Nat->RV}{d:Dat}(h:isScalar d=true):cells ρ A d=[leaf ρ A d]:=by
 cases d<;>first|rfl|cases h
theorem scal_nav{d:Dat}(h:isScalar d=true){q:List Nat}{e n s:Nat}{f:Nat->Dat}:nav d q≠some (.ow e n s f):=by
 intro hx
 cases q with
 |nil=>simp only[nav,Option.some.injEq] at hx;subst hx;cases h
 |cons i q=>cases d<;>first|(cases h;done)|(simp[nav] at hx)
theorem cells_scal{ρ:Rho}{A B:List Nat->RV}{n:Nat}{f:Nat->Dat}(h:∀j,j<n->isScalar (f j)=true):cells ρ A (.ar n 1 f)=(List.range n).map λ j=>leaf ρ B (f j):=by
 simp only[cells]
 have:∀l:List Nat,(∀j∈l,j<n)->(l.flatMap λ i=>cells ρ (λ q=>A (i::q)) (f i))=l.map λ j=>leaf ρ B (f j):=by
  intro l
  induction l with
  |nil=>intro _;rfl
  |cons i l ih=>
   intro hl
   rw[List.flatMap_cons,List.map_cons,ih λ j hj=>hl j (.tail _ hj),scal_cell (h i (hl i (.head _)))]
   have:leaf ρ (λ q=>A (i::q)) (f i)=leaf ρ B (f i):=by
    have:=h i (hl i (.head _))
    cases hf:f i<;>rw[hf] at this<;>first|rfl|cases this
   rw[this];rfl
 exact this _ λ j hj=>List.mem_range.1 hj
theorem ok_clear{T:TyEnv}(hT:TOK P T){fr:Nat->Dat}{m:List Root}{o:Oper}{t:TypeId}{x:Operand}{e sz0 by0:Nat}{z0:Dat}{r off len n:Nat}{f:Nat->Dat}{e':TypeId}(ho:o.op=.call { callee:=.builtin .clear,args:=#[x],argTypes:=#[t] })(ht:T t=some ⟨.slice e,sz0,by0,z0⟩)
  (hx:ev fr x=.sl r off len 1) {i:TI}(hi:T e=some i) (hz:i.z=.ns) (hR:m[r]? =some (.row e' n 1 f)) (hf:∀j,j<n->isScalar (f j)=true) (hl:0<len) (hn:off+len<=n):
  OpOK P o fr m (.tup 0 λ _=>.un) (m.set r (.row e' n 1 (clF f off len))):=by
 intro N ρ ac w hfm hr
 obtain⟨g0,_⟩:=ev_eq hfm (x:=x) hx (by simp)
 have hu:=(hT t _ ht).fits
 simp only[Ty.fits] at hu
 obtain⟨cur,hb,hoo,hnil,hcap,hmax,hsz,htk⟩:=hr.row r _ _ [] e' n 1 f hR rfl rfl rfl (.inl rfl)
 rw[Nat.mul_one] at hsz
 rw[Nat.mul_one,cells_scal (B:=noA) hf] at htk
 let zs:List Value:=List.replicate len (.slice none 0 0)
 have hzl:zs.length=len:=by simp[zs]
 let cur':Array Value:=(cur.toList.take off++zs++cur.toList.drop (off+zs.length)).toArray
 have hzc:(Go.Builtin.zeroCells #[Value.slice none 0 0] len).toList=zs:=by
  apply List.ext_getElem
  ·simp[Go.Builtin.zeroCells,zs]
  ·intro j h1 h2
   simp[Go.Builtin.zeroCells,zs,Nat.mod_one]
 have hst:=run_storeCells_at (P:=P) (ρ r []).b off e' zs 0 cur w hb (by omega) (λ v hv=>by rw[List.eq_of_mem_replicate hv];rfl)
 rw[Nat.add_zero] at hst
 have hnew:(w.setRow (ρ r []).b cur').heap[(ρ r []).b]? =some (.cells cur' e' (0,0)):=setRow_heap w _ cur cur' e' (0,0) hb
 have hf':∀j,j<n->isScalar (clF f off len j)=true:=λ j hj=>by
  unfold clF;split
  ·rfl
  ·exact hf j hj
 have hpl:∀q e2 n2 s2 f2,q≠[]->nav (.ow e' n 1 (clF f off len)) q≠some (.ow e2 n2 s2 f2):=λ q e2 n2 s2 f2 hq hx=>by
  cases q with
  |nil=>exact hq rfl
  |cons j q=>
   simp only[nav] at hx
   split at hx
   ·rename_i hj;exact scal_nav (hf' j hj) hx
   ·cases hx
 have hcur:cur'.toList.take n=(List.range n).map λ j=>leaf ρ noA (clF f off len j):=by
  apply List.ext_getElem?
  intro j
  have hcs:cur.toList.length=(ρ r []).cap:=by simpa using hsz
  by_cases hj:j<n
  ·rw[List.getElem?_take_of_lt hj,List.getElem?_map,List.getElem?_range hj,Option.map_some]
   have hold:cur.toList[j]? =some (leaf ρ noA (f j)):=by
    have:(cur.toList.take n)[j]? =some (leaf ρ noA (f j)):=by rw[htk];simp[hj]
    rwa [List.getElem?_take_of_lt hj] at this
   have hlo:(cur.toList.take off).length=off:=by simp;omega
   simp only[cur',List.toList_toArray]
   unfold clF
   by_cases c1:j<off
   ·rw[if_neg (by omega),List.append_assoc,List.getElem?_append_left (by omega),List.getElem?_take_of_lt c1,hold]
   ·by_cases c2:j<off+len
    ·rw[if_pos ⟨by omega,c2⟩,List.getElem?_append_left (by simp[hlo,hzl];omega),List.getElem?_append_right (by omega),hlo]
     simp only[zs,List.getElem?_replicate]
     rw[if_pos (by omega)];rfl
    ·rw[if_neg (by omega),List.getElem?_append_right (by simp[hlo,hzl];omega),List.getElem?_drop,List.length_append,hlo,hzl,show off+len+(j-(off+len))=j by omega,hold]
  ·rw[List.getElem?_eq_none (by simp;omega),List.getElem?_eq_none (by simp;omega)]
 obtain⟨hw,hs⟩:=hr.wf r _ _ hR rfl
 have h1:Rep ρ (m.set r (.row e' n 1 (clF f off len))) (w.setRow (ρ r []).b cur'):=by
  refine hr.replace hR rfl rfl (size_setRow _ _ _) (λ k hk=>setRow_other w _ _ _ hk) (λ d hd=>by cases hd) (λ e2 n2 s2 f2 hR2=>?_) (λ d d' q e2 n2 s2 f2 _ hd' hq hx=>?_) (λ d' e2 n2 s2 f2 hR2=>by cases hR2) (λ d hd=>?_) (λ b l hh=>by cases hh)
  ·cases hR2
   refine⟨cur',hnew,hoo,hnil,hcap,hmax,?_,?_⟩
   ·have hcs:cur.size=(ρ r []).cap:=hsz
    simp only[cur',List.size_toArray,List.length_append,List.length_take,List.length_drop,hzl,Array.length_toList];omega
   ·rw[Nat.mul_one,hcur,cells_scal (B:=noA) hf']
  ·cases hd';exact absurd hx (hpl q e2 n2 s2 f2 hq)
  ·cases hd
   refine⟨λ j hj=>?_,λ j hj=>?_⟩
   ·show sz (clF f off len j)=1/\WF (clF f off len j)
    unfold clF;split
    ·exact⟨rfl,trivial⟩
    ·exact hw j hj
   ·show Sc m.length (clF f off len j)
    unfold clF;split
    ·trivial
    ·exact hs j hj
 refine⟨ρ,w.setRow (ρ r []).b cur',_,?_,.inl ⟨_,rfl,.inr ⟨rfl,λ i hi=>absurd hi (Nat.not_lt_zero _),λ i hi=>absurd hi (Nat.not_lt_zero _)⟩⟩,h1,?_⟩
 ·simp only[enc,leaf,RV.slice,hnil,hoo,Nat.mul_one,Nat.zero_add] at g0 ⊢
  have hze:=zeroValue_run (hT e i hi) w
  rw[hz] at hze
  have hcl:(Builtin.clear_ #[t] o.type #[.slice (some ⟨(ρ r []).b,off,none⟩) len ((ρ r []).cap-off)]).run P w=.ok (.tuple #[]) (w.setRow (ρ r []).b cur'):=by
   unfold Builtin.clear_
   obtain⟨len',rfl⟩:∃k,len=k+1:=⟨len-1,by omega⟩
   simp only[List.getElem?_toArray,List.getElem?_cons_zero,Sem.run_bind,Sem.run_pure,Result.andThen_ok,run_underlying hu]
   simp only[Sem.run_bind,hze,Result.andThen_ok,enc,leaf,Value.cells,hzc,hst]
   rfl
  simp[execOp,ho,resolve,invoke,builtin,g0,hcl,Result.andThen]
 ·refine⟨rfl,rfl,Nat.le_refl _,rfl,by rw[size_setRow];exact Nat.le_refl _,λ _ _=>rfl,by simp,λ k hk hne=>setRow_other w _ _ _ (λ e1=>hne r _ [] hR rfl (.inl ⟨rfl,rfl⟩) e1.symm),λ r' X z h2 h3 h4=>.inr ?_,λ r' X z h2 h3 h4=>.inr ?_⟩
  ·rcases set_get h2 with⟨rfl,rfl,_⟩|⟨_,h5⟩
   ·have hz:z=[]:=by
     rcases h4 with h4|⟨d,e2,n2,s2,f2,h5,h6,_⟩
     ·exact h4.1
     ·cases h5
      exact Classical.byContradiction λ hq=>hpl z _ _ _ _ hq h6
    subst hz
    exact⟨_,_,[],hR,rfl,.inl ⟨rfl,rfl⟩,rfl⟩
   ·exact⟨r',X,z,h5,h3,h4,rfl⟩
  ·rcases set_get h2 with⟨rfl,rfl,_⟩|⟨_,h5⟩
   ·have hz:z=[]:=by
     rcases h3 with h3|⟨d,e2,n2,s2,f2,h5,h6⟩
     ·exact h3.1
     ·cases h5
      exact Classical.byContradiction λ hq=>hpl z _ _ _ _ hq h6
    subst hz
    exact⟨_,_,[],hR,.inl ⟨rfl,rfl⟩,h4,rfl⟩
   ·exact⟨r',X,z,h5,h3,h4,rfl⟩
end
end Go.Proofs.YthjnmlpibafbnaaGreat.DM
namespace Go.Proofs.YthjnmlpibafbnaaGreat.DM
open Go.RowKit
set_option linter.unusedVariables false
set_option linter.unusedSimpArgs false
section
variable {P:Program}{T:TyEnv}{fr:Nat->Dat}{m:List Root}
theorem rep_none{ρ:Rho}{w:World}(hr:Rep ρ m w)(a:Addr)(c s:Nat)(f:Nat->Dat):
  let ρ':=ext ρ m.length (λ _=>⟨true,0,0,0,some a,c⟩)
  Rep ρ' (m++[.ro 0 s f]) w/\Tr ρ m w ρ' (m++[.ro 0 s f]) w:=by
 intro ρ'
 have hρ:∀r,r<m.length->ρ' r=ρ r:=λ r hr=>ext_ne ρ _ (by omega)
 have hn:ρ' m.length=λ _=>⟨true,0,0,0,some a,c⟩:=ext_same ρ _ _
 have h1:Rep ρ' m w:=hr.rho hρ
 have nv:∀{q:List Nat}{e n s':Nat}{f':Nat->Dat},nav (.ow 0 0 s f) q=some (.ow e n s' f')->q=[]/\n=0:=λ{q e n s' f'} h=>by
  cases q with
  |nil=>simp only[nav,Option.some.injEq,Dat.ow.injEq] at h;exact⟨rfl,h.2.1.symm⟩
  |cons i q=>simp only[nav] at h;rw[if_neg (Nat.not_lt_zero _)] at h;cases h
 refine⟨h1.push (λ d h=>by cases h) (λ d q e n s' f' h=>by cases h) (λ d q e n s' f' _ hd hx=>?_) (λ q r' R' q' _ _ _ _ hz _=>?_) (λ q q' h=>by cases h) (λ q h=>by cases h) (λ d hd=>?_) (λ b l hh=>by cases hh),?_⟩
 ·cases hd
  obtain⟨rfl,rfl⟩:=nv hx
  rw[hn];exact .inl ⟨rfl,rfl⟩
 ·rw[hn] at hz;cases hz
 ·cases hd
  exact⟨λ i hi=>absurd hi (Nat.not_lt_zero _),λ i hi=>absurd hi (Nat.not_lt_zero _)⟩
 ·refine⟨rfl,rfl,Nat.le_refl _,rfl,Nat.le_refl _,λ r' hr'=>by rw[hρ r' hr'],by simp,λ _ _ _=>rfl,λ r' R' z hr' hm ha=>?_,λ r' R' z hr' ha hz=>?_⟩
  ·rcases snoc_get hr' with⟨hlt,h2⟩|⟨rfl,rfl⟩
   ·rw[hρ r' hlt];exact .inr ⟨r',R',z,h2,hm,ha,rfl⟩
   ·cases hm
  ·rcases snoc_get hr' with⟨hlt,h2⟩|⟨rfl,rfl⟩
   ·rw[hρ r' hlt] at hz ⊢;exact .inr ⟨r',R',z,h2,ha,hz,rfl⟩
   ·rw[hn] at hz;cases hz
theorem sle_ok(hT:TOK P T){o:Oper}{t:TypeId}{x y:Operand}{e sz0 by0:Nat}{z0:Dat}{r off s n l:Nat}{k:IntKind}{f:Nat->Dat}{e':TypeId}(g:Nat->Dat)(ho:o.op=.slice t x (some y) none none)(ht:T t=some ⟨.slice e,sz0,by0,z0⟩)(hx:ev fr x=.sl r off l s)(hy:ev fr y=.i k (l:Int))
  {i:TI}(hi:T e=some i) (hs:i.sz=s) (hR:m[r]? =some (.row e' n s f)) (hh:off+l<=n):QOK P o fr m (.sl m.length 0 0 s) (m++[.ro 0 s g]):=by
 intro N ρ ac hf
 obtain⟨h0,hsc,_⟩:=ev_eq hf (x:=x) hx (by simp)
 obtain⟨h1,_⟩:=ev_eq hf (x:=y) hy (by simp)
 have hu:=(hT t _ ht).fits
 simp only[Ty.fits] at hu
 have hel:P.elem t=e:=by simp[Program.elem,hu]
 have hu':P.underlying t=some (.slice (P.elem t)):=by rw[hel];exact hu
 let ad:Addr:=if(ρ r []).cap-off=l then⟨(ρ r []).b,(ρ r []).o+off*s,none⟩ else⟨(ρ r []).b,(ρ r []).o+(off+l)*s,none⟩
 refine⟨.slice (some ad) 0 ((ρ r []).cap-off-l),ext ρ m.length (λ _=>⟨true,0,0,0,some ad,(ρ r []).cap-off-l⟩),λ r' hr'=>by rw[ext_ne ρ _ (by omega)],by simp,λ w hr=>?_⟩
 have hnil:=hr.mine_nil hR rfl (.inl ⟨rfl,rfl⟩)
 have hcap:n<=(ρ r []).cap:=by
  obtain⟨blk,hb,_,_,hc,_⟩:=hr.row r _ _ [] e' n s f hR rfl rfl rfl (.inl rfl)
  exact hc
 obtain⟨g1,g2⟩:=rep_none hr ad ((ρ r []).cap-off-l) s g
 refine⟨?_,.inr ⟨?_,by simp[Sc],trivial,trivial⟩,g1,g2⟩
 ·obtain⟨ti,z,k1,_,_,k4,_,_⟩:=info_all (hT e i hi)
  simp only[execOp,ho,Option.map_none,Option.map_some,h0,h1,enc,leaf,RV.slice,hnil]
  have h2:=run_sliceAt_slice (P:=P) w t (.slice (some ⟨(ρ r []).b,(ρ r []).o+off*s,none⟩) l ((ρ r []).cap-off)) (some (.int k (l:Int))) none none hu'
  have:=run_slice_l (P:=P) w t (some ⟨(ρ r []).b,(ρ r []).o+off*s,none⟩) l ((ρ r []).cap-off) hu' k (l:Int) (by omega) (by omega)
  have hsz:ti.size=s:=by rw[k4,hs]
  have hadd:(⟨(ρ r []).b,(ρ r []).o+off*s,none⟩:Addr).add (l*s)=⟨(ρ r []).b,(ρ r []).o+(off+l)*s,none⟩:=by
   unfold Addr.add
   rw[Nat.add_mul, <-Nat.add_assoc]
   split
   ·rename_i h;rw[h];rfl
   ·rfl
  simp only[Sem.run_bind,h2,this,hel,sizeOf,typeInfo,k1,Sem.run_pure,Result.andThen_ok,sliced,Int.toNat_natCast,Option.map_some,Nat.sub_self]
  by_cases hc1:(ρ r []).cap-off=l
  ·simp[k1,hsz,hadd,Result.andThen,ad,hc1]
  ·simp[k1,hsz,hadd,Result.andThen,ad,hc1]
 ·simp only[enc,leaf,ext_same,RV.slice]
end
end Go.Proofs.YthjnmlpibafbnaaGreat.DM
