import Derived.Test.YthjnmlpibafbnaaGreatD8a
import Derived.Test.YthjnmlpibafbnaaGreatD6u
import Derived.Maps.AppendAt
import Derived.Laws.MakeOwn
import Derived.Great.BuildSlice
namespace Go.Proofs.YthjnmlpibafbnaaGreat.DM
open Go.RowKit
set_option linter.unusedSimpArgs false
section
variable {P:Program}{T:TyEnv}{fr:Nat->Dat}{m m':List Root}{v:Dat}{ps:List Prop}{wm:Bool}
theorem holdsL_nil{r:Nat}{R:Root}(hR:m[r]? =some R)(hn:R.rowy=true){off len:Nat}(hp:AllP (R.holdsL off len)){ρ:Rho}{w:World}(hr:Rep ρ m w)(hz:(ρ r []).nil=true):off+len=0:=by
 cases R with
 |dead=>cases hn
 |mp=>cases hn
 |var d=>have:=hr.mine_nil hR rfl (.inl ⟨rfl,rfl⟩);rw[hz] at this;cases this
 |row e n s f=>have:=hr.mine_nil hR rfl (.inl ⟨rfl,rfl⟩);rw[hz] at this;cases this
 |ro n s f=>
  have hp:off+len<=n:=hp
  rcases hr.ro r _ _ [] 0 n s f hR (.inl rfl) rfl rfl with⟨_,hz'⟩|⟨h1,_⟩
  ·omega
  ·rw[hz] at h1;cases h1
theorem ok_len(hT:TOK P T){o:Oper}{t:TypeId}{x:Operand}(ho:o.op=.call { callee:=.builtin .len,args:=#[x],argTypes:=#[t] })(h:lenE T t (ev fr x) m=some (ps,v))(hp:AllP ps):QOK P o fr m v m:=
 .of_run λ N ρ a w hf hr=>by
  have hne:ev fr x≠.un:=by intro e;rw[e] at h;unfold lenE at h;split at h<;>simp_all
  obtain⟨h0,hs,hok⟩:=ev_eq hf (x:=x) rfl hne
  unfold lenE at h
  split at h
  ·rename_i e a1 a2 a3 r off len sz ht hx
   rw[hx] at h0
   have hu:=(hT t _ ht).fits
   simp only[Ty.fits] at hu
   split at h
   case h_2=>cases h
   rename_i R hR
   cases hn:R.rowy with
   |false=>rw[hn] at h;cases h
   |true=>
    rw[hn] at h
    simp only[cond_true,Option.some.injEq,Prod.mk.injEq] at h
    obtain⟨rfl,rfl⟩:=h
    refine⟨?_,trivial,trivial,trivial⟩
    cases hz:(ρ r []).nil with
    |false=>simp[execOp,ho,resolve,invoke,builtin,h0,enc,leaf,RV.slice,hz,Builtin.len_,run_underlying hu,goInt,Result.andThen]
    |true=>
     have:=holdsL_nil hR hn hp hr hz
     have e1:len=0:=by omega
     subst e1
     cases hy:(ρ r []).na<;>simp[execOp,ho,resolve,invoke,builtin,h0,enc,leaf,RV.slice,hz,hy,Builtin.len_,run_underlying hu,goInt,Result.andThen]
  ·rename_i e a1 a2 a3 ht hx
   rw[hx] at h0
   have hu:=(hT t _ ht).fits
   simp only[Ty.fits] at hu
   simp only[Option.some.injEq,Prod.mk.injEq] at h
   obtain⟨rfl,rfl⟩:=h
   refine⟨?_,trivial,trivial,trivial⟩
   simp[execOp,ho,resolve,invoke,builtin,h0,enc,leaf,Builtin.len_,run_underlying hu,goInt,Result.andThen]
  ·rename_i a1 a2 a3 b ht hx
   rw[hx] at h0
   have hu:=(hT t _ ht).fits
   simp only[Ty.fits] at hu
   simp only[Option.some.injEq,Prod.mk.injEq] at h
   obtain⟨rfl,rfl⟩:=h
   refine⟨?_,trivial,trivial,trivial⟩
   simp[execOp,ho,resolve,invoke,builtin,h0,enc,leaf,Builtin.len_,run_underlying hu,goInt,Result.andThen]
  ·cases h
theorem ok_loadS(hT:TOK P T){o:Oper}{t:TypeId}{x:Operand}(ho:o.op=.load t x)(h:loadS T t (ev fr x) m=some (ps,v,m'))(hp:AllP ps):QOK P o fr m v m':=by
 unfold loadS at h
 split at h
 case h_2=>cases h
 rename_i r j q0 c e0 sz by0 z0 hx ht
 split at h
 case h_2=>cases h
 rename_i R hR
 split at h
 case h_2=>cases h
 rename_i ps0 e n s f hnav
 rw[cond_eq_ite] at h
 split at h
 case isFalse hc0=>
  --one's own:it becomes a root
  rw[cond_eq_ite] at h
  split at h
  case isFalse=>cases h
  rename_i hc
  simp only[Bool.and_eq_true,Bool.not_eq_true'] at hc
  rw[fL_eq] at h
  simp only[Option.some.injEq,Prod.mk.injEq] at h
  obtain⟨rfl,rfl,rfl⟩:=h
  obtain⟨hp1,hoff⟩:=hp.app
  obtain⟨hnl,hoo⟩:=Root.navE_ok hnav hp1
  have hq:j::q0≠[]:=by simp
  generalize j::q0=q at*
  have he:e≠0:=λ h0=>by subst h0;cases hc.2.2
  intro N ρ a hf
  obtain⟨h0,hs,hok⟩:=ev_eq hf hx (by simp)
  refine⟨(ρ r q).slice 0 n s,ext ρ m.length (λ z=>ρ r (q++z)),λ r' hr'=>by rw[ext_ne ρ _ (by omega)],by simp,λ w hr=>?_⟩
  have hti:=hT t _ ht
  obtain⟨hwx,hnil,hcell⟩:=hr.part hR hnl
  obtain⟨g1,g2⟩:=hr.unfold hR hc.2.1 hq hnl he
  have hadr:enc ρ (.p r q c)=.pointer (some ⟨(ρ r []).b,(ρ r []).o+R.offs q,none⟩):=by
   rw[<-hoo,show R.offA q=c from hoff];rfl
  refine⟨?_,?_,g1,?_⟩
  ·simp only[execOp,ho,h0,hadr]
   have h2:=hcell 0 ((ρ r q).slice 0 n s) (by simp[cells,leaf])
   rw[Nat.add_zero] at h2
   have hag:=isAgg_run hti w
   have:(Instr.loadAt t (.pointer (some ⟨(ρ r []).b,(ρ r []).o+R.offs q,none⟩))).run P w=.ok ((ρ r q).slice 0 n s) w:=by
    unfold Instr.loadAt
    simp only[Instr.sureAddr,Sem.run_bind,Sem.run_pure,Result.andThen_ok]
    unfold loadVar
    rw[Sem.run_bind,hag]
    simp only[Ty.agg,Result.andThen_ok,Bool.false_eq_true,if_false]
    show(load _ _).run P w=_
    simp[load,Sem.run,h2]
   simp[this]
  ·refine .inr ⟨?_,by simp[Sc],trivial,trivial⟩
   simp only[enc,leaf,ext_same,List.append_nil]
  ·exact(g2 m.length (Nat.le_refl _)).full (by simp[unfoldM])
 rename_i hc
 simp only[Bool.and_eq_true,Bool.or_eq_true,Bool.not_eq_true'] at hc
 rw[fL_eq] at h
 simp only[Option.some.injEq,Prod.mk.injEq] at h
 obtain⟨rfl,rfl,rfl⟩:=h
 obtain⟨hp1,hp2⟩:=hp.app
 obtain⟨hoff,hno⟩:=hp2.cons
 obtain⟨hnl,hoo⟩:=Root.navE_ok hnav hp1
 have hq:j::q0≠[]:=by simp
 generalize j::q0=q at*
 intro N ρ a hf
 obtain⟨h0,hs,hok⟩:=ev_eq hf hx (by simp)
 refine⟨(ρ r q).slice 0 n s,ext ρ m.length (λ z=>ρ r (q++z)),λ r' hr'=>by rw[ext_ne ρ _ (by omega)],by simp,λ w hr=>?_⟩
 have hti:=hT t _ ht
 obtain⟨hwx,hnil,hcell⟩:=hr.part hR hnl
 have hsc:=hr.part_sc hR hnl
 obtain⟨d,hd,hdn⟩:=Root.navL_cell hnl hq
 have hno':R.mine=true->∀i,i<n->NoOwn (f i):=λ hm=>by rw[hm] at hno;exact hno
 have he:R.mine=true->e=0:=λ hm=>by
  rcases hc.2 with h|h
  ·exact Nat.eq_of_beq_eq_true h
  ·rw[hm] at h;cases h
 have hρ:∀r',r'<m.length->ext ρ m.length (λ z=>ρ r (q++z)) r'=ρ r':=λ r' hr'=>ext_ne ρ _ (by omega)
 have hn:ext ρ m.length (λ z=>ρ r (q++z)) m.length=λ z=>ρ r (q++z):=ext_same ρ _ _
 have hrep1:Rep (ext ρ m.length (λ z=>ρ r (q++z))) m w:=hr.rho hρ
 have hro:∀z e' n' s' f',nav (.ow e n s f) z=some (.ow e' n' s' f')->RoOK ρ w (ρ r (q++z)) (λ y=>ρ r ((q++z)++y)) n' s' f':=by
  intro z e' n' s' f' hz
  have hz':=nav_app hdn hz
  have hqz:q++z≠[]:=by simp[hq]
  cases hm:R.mine with
  |false=>exact hr.ro r R d (q++z) e' n' s' f' hR (.inl hm) hd hz'
  |true=>
   by_cases he':e'=0
   ·exact hr.ro r R d (q++z) e' n' s' f' hR (.inr ⟨hqz,he'⟩) hd hz'
   ·exact(hr.row r R d (q++z) e' n' s' f' hR hm hd hz' (.inr he')).ro
 have hadr:enc ρ (.p r q c)=.pointer (some ⟨(ρ r []).b,(ρ r []).o+R.offs q,none⟩):=by
  rw[<-hoo,hoff];rfl
 refine⟨?_,?_,?_,?_⟩
 ·simp only[execOp,ho,h0,hadr]
  have h2:=hcell 0 ((ρ r q).slice 0 n s) (by simp[cells,leaf])
  rw[Nat.add_zero] at h2
  have hag:=isAgg_run hti w
  have:(Instr.loadAt t (.pointer (some ⟨(ρ r []).b,(ρ r []).o+R.offs q,none⟩))).run P w=.ok ((ρ r q).slice 0 n s) w:=by
   unfold Instr.loadAt
   simp only[Instr.sureAddr,Sem.run_bind,Sem.run_pure,Result.andThen_ok]
   unfold loadVar
   rw[Sem.run_bind,hag]
   simp only[Ty.agg,Result.andThen_ok,Bool.false_eq_true,if_false]
   show(load _ _).run P w=_
   simp[load,Sem.run,h2]
  simp[this]
 ·refine .inr ⟨?_,by simp[Sc],trivial,trivial⟩
  simp only[enc,leaf,hn,List.append_nil]
 ·refine hrep1.push ?_ ?_ ?_ ?_ ?_ ?_ ?_ (λ b l hh=>by cases hh)
  ·intro d' h;cases h
  ·intro d' z e' n' s' f' h;cases h
  ·intro d' z e' n' s' f' _ hd' hz
   cases hd'
   rw[hn]
   have hz2:nav (.ow e n s f) z=some (.ow e' n' s' f')\/(z=[]/\e'=0/\n'=n/\s'=s/\f'=f):=by
    cases z with
    |nil=>simp only[nav,Option.some.injEq,Dat.ow.injEq] at hz;obtain⟨rfl,rfl,rfl,rfl⟩:=hz;exact .inr ⟨rfl,rfl,rfl,rfl,rfl⟩
    |cons i z=>exact .inl hz
   have hsc':Sc m.length (.ow e' n' s' f'):=sc_nav hz hsc
   have key:RoOK ρ w (ρ r (q++z)) (λ y=>ρ r (q++(z++y))) n' s' f':=by
    rcases hz2 with h|⟨rfl,rfl,rfl,rfl,rfl⟩
    ·have:=hro z e' n' s' f' h
     simpa only[List.append_assoc] using this
    ·have:=hro [] e n' s' f' rfl
     simpa only[List.append_assoc] using this
   exact key.rho (n:=m.length) (λ r' hr'=>by rw[hρ r' hr']) hsc'
  ·intro z r' R' q' ha hr' ha' hor hzn hzn'
   have hlt:r'<m.length:=(List.getElem?_eq_some_iff.1 hr').1
   rw[hn] at hzn ⊢
   rw[hρ r' hlt] at hzn' ⊢
   rcases hor with⟨hm,_⟩|⟨hm,hao⟩
   ·cases hm
   ·have hat:At R (q++z):=by
     rcases ha with⟨rfl,_⟩|⟨d',e',n',s',f',g1,g2⟩
     ·exact .inr ⟨d,e,n,s,f,hd,by rw[List.append_nil];exact hdn⟩
     ·cases g1
      cases z with
      |nil=>exact .inr ⟨d,e,n,s,f,hd,by rw[List.append_nil];exact hdn⟩
      |cons i z=>exact .inr ⟨d,e',n',s',f',hd,nav_app hdn (by exact g2)⟩
    refine λ e1=>hr.sep r' R' q' r R (q++z) hr' hR hm hao hat hzn (λ e2 e3=>?_) e1.symm
    subst e2
    rw[hR] at hr'
    cases hr'
    rcases hao with⟨h0,_⟩|⟨d2,e2,n2,s2,f2,k1,k2,k3⟩
    ·rw[h0] at e3;exact absurd e3.symm (by simp[hq])
    ·rw[hd] at k1
     cases k1
     have h9:NoOwn (.ow e n s f):=⟨he hm,hno' hm⟩
     rcases ha with⟨rfl,_⟩|⟨d',e',n',s',f',g1,g2⟩
     ·rw[e3,List.append_nil,hdn] at k2
      cases k2
      exact k3 (he hm)
     ·cases g1
      cases z with
      |nil=>rw[e3,List.append_nil,hdn] at k2;cases k2;exact k3 (he hm)
      |cons i z=>
       have g3:nav (.ow e n s f) (i::z)=some (.ow e' n' s' f'):=g2
       rw[e3,nav_app hdn g3] at k2
       cases k2
       exact k3 (NoOwn_nav h9 g3).1
  ·intro z z' hm;cases hm
  ·intro z hm;cases hm
  ·intro d' hd';cases hd'
   exact⟨hwx,hsc.mono (by omega)⟩
 ·refine⟨rfl,rfl,Nat.le_refl _,rfl,Nat.le_refl _,λ r' hr'=>by rw[hρ r' hr'],by simp,λ _ _ _=>rfl,λ r' R' z hr' hm ha=>?_,λ r' R' z hr' ha hz=>?_⟩
  ·rcases snoc_get hr' with⟨hlt,h2⟩|⟨rfl,rfl⟩
   ·rw[hρ r' hlt];exact .inr ⟨r',R',z,h2,hm,ha,rfl⟩
   ·cases hm
  ·rcases snoc_get hr' with⟨hlt,h2⟩|⟨rfl,rfl⟩
   ·rw[hρ r' hlt] at hz ⊢;exact .inr ⟨r',R',z,h2,ha,hz,rfl⟩
   ·rw[hn] at hz ⊢
    refine .inr ⟨r,R,q++z,hR,?_,hz,rfl⟩
    rcases ha with⟨rfl,_⟩|⟨d',e',n',s',f',g1,g2⟩
    ·exact .inr ⟨d,e,n,s,f,hd,by rw[List.append_nil];exact hdn⟩
    ·cases g1
     cases z with
     |nil=>exact .inr ⟨d,e,n,s,f,hd,by rw[List.append_nil];exact hdn⟩
     |cons i z=>exact .inr ⟨d,e',n',s',f',hd,nav_app hdn (by exact g2)⟩
theorem madeCells_list{z:Array Value}{s:Nat}(hz:z.size=s)(hs:0<s):∀n,(madeCells z (n*s)).toList=(List.range n).flatMap λ _=>z.toList
 |0=>by simp[madeCells]
 |n+1=>by
  rw[List.range_succ,List.flatMap_append, <-madeCells_list hz hs n]
  apply List.ext_getElem
  ·simp[madeCells,Nat.succ_mul,hz]
  ·intro j h1 h2
   simp only[madeCells,Array.toList_map,Array.toList_range,List.getElem_map,List.getElem_range,List.flatMap_cons,List.flatMap_nil,List.append_nil,List.getElem_append,List.length_map,List.length_range]
   simp[madeCells,Nat.succ_mul] at h1
   split
   ·rfl
   ·rename_i hj
    have hlt:j-n*s<z.size:=by omega
    have e:j % z.size=j-n*s:=by
     rw[hz]
     have:j=(j-n*s)+s*n:=by rw[Nat.mul_comm s n];omega
     rw[this,Nat.add_mul_mod_self_left,Nat.mod_eq_of_lt (by omega)]
     omega
    rw[e]
    simp[hlt]
theorem Rep.newRow{ρ:Rho}{w:World}(h:Rep ρ m w){e:TypeId}{n c s:Nat}{f:Nat->Dat}{blk:Array Value}(hb:blk.size=c*s)(hc:n<=c)(hmax:c<=maxLen)(hl:blk.toList.take (n*s)=cells ρ noA (.ar n s f))(hp:Pl (.ar n s f))(hw:WF (.ar n s f))(hs:Sc m.length (.ar n s f)):
  let ρ':=ext ρ m.length (λ _=>⟨false,w.heap.size,0,c,none,0⟩)
  let w':=w.alloc (.cells blk e)
  Rep ρ' (m++[.row e n s f]) w'/\Tr ρ m w ρ' (m++[.row e n s f]) w':=by
 intro ρ' w'
 have hno:∀q e' n' s' f',q≠[]->nav (.ow e n s f) q≠some (.ow e' n' s' f'):=by
  intro q e' n' s' f' hq hx
  cases q with
  |nil=>exact hq rfl
  |cons i q=>
   simp only[nav] at hx
   split at hx
   ·rename_i hi;exact Pl_nav (hp i hi) hx
   ·cases hx
 refine h.pushRow (m1:=m) (kb:=none) rfl (λ _ _ h=>.inr h) (World.grownBy_alloc w _ none) (Nat.le_refl _) (λ b hb=>by cases hb) _ ?_ (.inl rfl) (λ _=>(0,[])) ?_ ?_ hw hs
 ·refine⟨blk,heap_alloc_new w _,rfl,rfl,hc,hmax,hb,?_⟩
  rw[hl];exact cells_plain _ _ _ hp
 ·intro q e' n' s' f' hq hx;exact absurd hx (hno q e' n' s' f' hq)
 ·intro q q' e' n' s' f' d' hq _ hx;exact absurd hx (hno q e' n' s' f' hq)
theorem info_all{t:TypeId}{i:TI}(h:i.ok P t):∃ti z,P.info? t=some ti/\ti.zero=some z/\z=enc noR i.z/\ti.size=i.sz/\ti.bytes=i.bytes/\z.cells.size=i.sz:=by
 have hi:=h.info
 cases hq:P.info? t with
 |none=>rw[hq] at hi;cases hi
 |some x=>
  rw[hq] at hi
  simp only[Option.map_some,Option.some.injEq,Prod.mk.injEq] at hi
  refine⟨x,_,rfl,hi.1,rfl,hi.2.1,hi.2.2,?_⟩
  rw[enc_cells _ h.wf,List.size_toArray,cells_length _ _ _ h.wf,h.szz]
theorem ok_make(hT:TOK P T){o:Oper}{t:TypeId}{x y:Operand}(ho:o.op=.makeSlice t x y)(h:evalOp T wm (.makeSlice t x y) fr m=some (ps,v,m'))(hp:AllP ps):OpOK P o fr m v m':=by
 simp only[evalOp,fL_eq] at h
 split at h
 case h_2=>cases h
 rename_i e sz0 by0 z0 ka a kb b ht hx hy
 split at h
 case h_2=>cases h
 rename_i i hi
 rw[cond_eq_ite] at h
 split at h
 case isFalse=>cases h
 rename_i hby
 simp only[Option.some.injEq,Prod.mk.injEq] at h
 obtain⟨rfl,rfl,rfl⟩:=h
 obtain⟨ha,hab,hb⟩:=hp
 have hb:b<=4294967296:=hb
 have hby:=Nat.le_of_ble_eq_true hby
 intro N ρ ac w hf hr
 obtain⟨h0,_⟩:=ev_eq hf hx (by simp)
 obtain⟨h1,_⟩:=ev_eq hf hy (by simp)
 have hk:=hT e i hi
 have hu:=(hT t _ ht).fits
 simp only[Ty.fits] at hu
 obtain⟨ti,z,g1,g2,g3,g4,g5,g6⟩:=info_all hk
 have hrun:=run_make (P:=P) w t e ti z hu g1 g2 ka kb a b ha hab (by
  rw[g5]
  have:(i.bytes:Int)*b<=4096*4294967296:=Int.mul_le_mul (by omega) hb (by omega) (by omega)
  omega) (by omega)
 have hz:z.cells=(cells ρ noA i.z).toArray:=by rw[g3,enc_noR hk.sc ρ,enc_cells _ hk.wf]
 have hpl:Pl (.ar a.toNat i.sz λ _=>i.z):=λ _ _=>hk.pl
 obtain⟨r1,r2⟩:=hr.newRow (e:=e) (n:=a.toNat) (c:=b.toNat) (s:=i.sz) (f:=λ _=>i.z) (blk:=madeCells z.cells (b.toNat*ti.size)) (by rw[size_madeCells,g4]) (by omega) (by simp only[maxLen];omega) (by
  rw[g4,madeCells_list g6 hk.pos,hz]
  rw[show b.toNat=a.toNat+(b.toNat-a.toNat) by omega,List.range_add,List.flatMap_append]
  have hl:((List.range a.toNat).flatMap λ _=>(cells ρ noA i.z).toArray.toList).length=a.toNat*i.sz:=by
   rw[flat_length,sumN_const (s:=i.sz)]
   intro j _
   show(cells ρ noA i.z).length=_
   rw[cells_length _ _ _ hk.wf,hk.szz]
  rw[<-hl,List.take_left]
  rfl) hpl (λ _ _=>⟨hk.szz,hk.wf⟩) (λ _ _=>hk.sc.mono (Nat.zero_le _))
 refine⟨_,_,_,?_,.inl ⟨_,rfl,.inr ⟨rfl,by simp[Sc],trivial,trivial⟩⟩,r1,r2⟩
 simp only[execOp,ho,h0,h1,enc,leaf,hrun,Sem.run_bind,Result.andThen_ok,Sem.run_pure,ext_same,RV.slice]
 simp
theorem ok_bslice(hT:TOK P T){o:Oper}{t:TypeId}{len:Nat}{qs:Array (Nat×Operand)}(ho:o.op=.buildSlice t len qs)(h:evalOp T wm (.buildSlice t len qs) fr m=some (ps,v,m'))(hp:AllP ps):OpOK P o fr m v m':=by
 simp only[evalOp,fP_eq,fL_eq] at h
 split at h
 case h_2=>cases h
 rename_i e sz0 by0 z0 ht
 split at h
 case h_2=>cases h
 rename_i i hi
 rw[cond_eq_ite] at h
 split at h
 case isFalse=>cases h
 rename_i hsm
 split at h
 case h_2=>cases h
 rename_i qs' n s0 f hb
 simp only[Option.some.injEq,Prod.mk.injEq] at h
 obtain⟨rfl,rfl,rfl⟩:=h
 have hsm:=Nat.le_of_ble_eq_true hsm
 intro N ρ a w hf hr
 have hk:=hT e i hi
 have hu:=(hT t _ ht).fits
 simp only[Ty.fits] at hu
 obtain⟨ti,z,g1,g2,g3,g4,g5,g6⟩:=info_all hk
 have hz:z.cells=(cells ρ noA i.z).toArray:=by rw[g3,enc_noR hk.sc ρ,enc_cells _ hk.wf]
 obtain⟨h1,h2⟩:=parts_ok hf (l:=qs.toList) (buildE_ne hb)
 have hpt:∀j t off ti',(λ j=>some (e,j*i.sz)) j=some (t,off)->T t=some ti'->(λ j=>some (j*i.sz,i.sz)) j=some (off,ti'.sz):=by
  intro j t off ti' h3 h4
  simp only[Option.some.injEq,Prod.mk.injEq] at h3
  obtain⟨rfl,rfl⟩:=h3
  rw[hi] at h4;cases h4;rfl
 obtain⟨r1,r2,r3,r4,r5,r6⟩:=fill_ok hT hpt (ρ:=ρ) hb hp (show WF (.ar len i.sz λ _=>i.z) from λ _ _=>⟨hk.szz,hk.wf⟩) (show Pl (.ar len i.sz λ _=>i.z) from λ _ _=>hk.pl) (λ y hy=>(h2 y hy).2)
 obtain⟨f',hf'⟩:=r5.1 len i.sz _ rfl
 cases hf'
 have hs:Sc m.length (.ar len i.sz f):=r6 _ (show Sc m.length (.ar len i.sz λ _=>i.z) from λ _ _=>hk.sc.mono (Nat.zero_le _)) (λ y hy=>(h2 y hy).1)
 have hcells:(cells ρ noA (.ar len i.sz λ _=>i.z)).toArray=madeCells z.cells (len*ti.size):=by
  apply Array.ext'
  rw[g4,madeCells_list g6 hk.pos,hz]
  rfl
 have hlen:(cells ρ noA (.ar len i.sz f)).length=len*i.sz:=cells_length _ _ _ r2
 have hmx:len<=maxLen:=by
  have:=hk.pos
  simp only[maxLen]
  have:len<=len*i.sz:=Nat.le_mul_of_pos_right _ this
  omega
 obtain⟨w1,w2⟩:=hr.newRow (e:=e) (n:=len) (c:=len) (s:=i.sz) (f:=f) (blk:=(cells ρ noA (.ar len i.sz f)).toArray) (by simp[hlen]) (Nat.le_refl _) hmx (by rw[List.toList_toArray, <-hlen,List.take_length]) r3 r2 hs
 refine⟨_,_,_,?_,.inl ⟨_,rfl,.inr ⟨rfl,by simp[Sc],trivial,trivial⟩⟩,w1,w2⟩
 have e1:(qs.map λ(i,x)=>(i,a.eval x))=((parts fr qs.toList).map λ y=>(y.1,enc ρ y.2)).toArray:=by
  apply Array.ext'
  rw[Array.toList_map, <-h1]
 have hrun:(Instr.buildSlice t len (qs.map λ(i,x)=>(i,a.eval x))).run P w=.ok (.slice (some ⟨w.heap.size,0,none⟩) len len) (w.alloc (.cells (cells ρ noA (.ar len i.sz f)).toArray e)):=by
  have hsm':¬len*ti.size>2 ^ 24:=by rw[g4];omega
  by_cases h0:len*ti.size=0
  ·have hn0:len=0:=by
    rw[g4] at h0
    have:=hk.pos
    rcases Nat.mul_eq_zero.1 h0 with h|h<;>omega
   subst hn0
   have e2:(madeCells z.cells (0*ti.size))=#[]:=by simp[madeCells]
   rw[hcells,e2] at r1
   rw[e1]
   simp only[Instr.buildSlice,run_underlying hu,Sem.run_bind,Result.andThen_ok,sizeOf,typeInfo,g1,hsm',if_false,h0,if_true,Sem.run_pure]
   simp only[Nat.zero_mul,show(Array.range 0:Array Nat)=#[] from rfl,Array.map_empty,g4] at r1 ⊢
   simp[r1,newRow,g1,g4]
  ·have:=run_buildSlice (P:=P) w t e len (qs.map λ(i,x)=>(i,a.eval x)) (cells ρ noA (.ar len i.sz f)).toArray ti z hu g1 g2 hsm' h0 (by
    rw[hcells] at r1
    rw[e1,g4] at*
    exact r1)
   exact this
 simp only[execOp,ho,Sem.run_bind,hrun,Result.andThen_ok,Sem.run_pure,enc,leaf,ext_same,RV.slice]
 simp
theorem cells_mid{ρ:Rho}{A:List Nat->RV}{n s:Nat}{f:Nat->Dat}(hw:WF (.ar n s f)){off len:Nat}(h:off+len<=n){j:Nat}{u:Value}
  (hu:(cells ρ (λ z=>match z with
   |[]=>default
   |i::z=>A ((off+i)::z)) (.ar len s λ i=>f (off+i)))[j]? =some u):(cells ρ A (.ar n s f))[off*s+j]? =some u:=by
 have e1:cells ρ A (.ar n s f)=cells ρ A (.ar off s f)++(cells ρ (λ z=>match z with
   |[]=>default
   |i::z=>A ((off+i)::z)) (.ar len s λ i=>f (off+i))++((List.range (n-off-len)).flatMap λ i=>cells ρ (λ q=>A ((off+len+i)::q)) (f (off+len+i)))):=by
  simp only[cells]
  rw[show n=off+(len+(n-off-len)) by omega,List.range_add,List.range_add,List.flatMap_append,List.map_append,List.flatMap_append,List.map_map,List.flatMap_map,List.flatMap_map]
  rw[show off+(len+(n-off-len))-off-len=n-off-len by omega]
  congr 2
  apply flatMap_congr
  intro i _
  simp only[Function.comp,Nat.add_assoc]
 have hl:(cells ρ A (.ar off s f)).length=off*s:=cells_length ρ (.ar off s f) A (λ i hi=>hw i (by omega))
 rw[e1, <-hl,List.getElem?_append_right (by omega),Nat.add_sub_cancel_left]
 exact(List.getElem?_append_left (List.getElem?_eq_some_iff.1 hu).1).trans hu
theorem append_nil_run{P:Program}{t ty e:TypeId}{ti:TypeInfo}(hu:P.underlying t=some (.slice e))(hi:P.info? e=some ti)(a:Addr)(n c:Nat)(hc:n<=c)(w:World):
  (Builtin.append_ #[t,t] ty #[.slice (some a) n c,.slice none 0 0]).run P w=.ok (.slice (some a) n c) w:=by
 simp[Builtin.append_,run_underlying hu,sizeOf,typeInfo,hi,Builtin.lenOf,Builtin.firstCells,hc,storeCells]
theorem append_nil_run2{P:Program}{t ty e:TypeId}{ti:TypeInfo}(hu:P.underlying t=some (.slice e))(hi:P.info? e=some ti)(a b:Addr)(n c c2:Nat)(hc:n<=c)(w:World):
  (Builtin.append_ #[t,t] ty #[.slice (some a) n c,.slice (some b) 0 c2]).run P w=.ok (.slice (some a) n c) w:=by
 simp[Builtin.append_,run_underlying hu,sizeOf,typeInfo,hi,Builtin.lenOf,Builtin.firstCells,hc,storeCells,loadCells,loadCellsFrom]
def NilV(v:Value):Prop:=v=.slice none 0 0
theorem app_run{P:Program}{t ty e:TypeId}{i:TI}(hu:P.underlying t=some (.slice e))(hk:i.ok P e)(hby:i.bytes<=4096){w:World}{vb:Value}{n len:Nat}{xs news:List Value}(hown:w.ownsRow 0 e i.sz vb n xs)(hnn:NilV vb->0<len)
  (v2:RV) (off:Nat) (hl:news.length=len*i.sz) (hnews:v2.nil=false->∀j u,news[j]? =some u->w.cell? ⟨v2.b,v2.o+off*i.sz+j,none⟩=some u) (hz:v2.nil=true->len=0) (h1:∀u∈news,u.oneCell'=true) (hb:n+len<=4294967296):
  ∃g cap w',(Builtin.append_ #[t,t] ty #[vb,v2.slice off len i.sz]).run P w=.ok (.slice (some ⟨g,0,none⟩) (n+len) cap) w'/\w'.ownsRow 0 e i.sz (.slice (some ⟨g,0,none⟩) (n+len) cap) (n+len) (xs++news)/\w.grownBy w' vb.ownBlock/\
   (g=w.heap.size\/vb.ownBlock=some g):=by
 obtain⟨ti,z,g1,g2,g3,g4,g5,g6⟩:=info_all hk
 have fin:∀{v':Value}{w':World},w'.ownsRow 0 e i.sz v' (n+len) (xs++news)->¬NilV v'->∃g cap,v'=.slice (some ⟨g,0,none⟩) (n+len) cap:=by
  intro v' w' h hn
  rcases h.2 with⟨h1,_⟩|⟨g,cap,cur,h1,_⟩
  ·exact absurd h1 hn
  ·exact⟨g,cap,h1⟩
 cases hv:v2.nil with
 |false=>
  have e1:v2.slice off len i.sz=.slice (some ⟨v2.b,v2.o+off*i.sz,none⟩) len (v2.cap-off):=by unfold RV.slice;rw[hv]
  have hbytes:(n+len)*i.bytes<=140737488355328:=by
   have:(n+len)*i.bytes<=4294967296*4096:=Nat.mul_le_mul hb hby
   omega
  obtain⟨v',w',r1,r2,r3,r4,r5⟩:=run_append_own_at (P:=P) w 0 t ty e ti z i.sz i.bytes hu g1 g2 g4 g5 g6 hk.pos vb n xs hown ⟨v2.b,v2.o+off*i.sz,none⟩ len (v2.cap-off) news hl
   (λ j u hj=>by rw[addr_add];exact hnews hv j u hj) h1 (by simp only[maxLen];omega) hbytes (Nat.zero_le _)
  have hn':¬NilV v':=λ h=>by
   obtain⟨h2,h3⟩:=r4.1 h
   have:=hnn h2
   omega
  obtain⟨g,cap,rfl⟩:=fin r2 hn'
  refine⟨g,cap,w',by rw[e1];exact r1,r2,r3,?_⟩
  rcases r5 with h|h
  ·exact .inr h.symm
  ·exact .inl (Option.some.inj h)
 |true=>
  have e1:v2.slice off len i.sz=.slice none 0 0\/∃a c,v2.slice off len i.sz=.slice (some a) 0 c:=by
   unfold RV.slice;rw[hv]
   cases hy:v2.na with
   |none=>exact .inl rfl
   |some a=>exact .inr ⟨a,_,rfl⟩
  have hl0:=hz hv
  subst hl0
  have hx:news=[]:=List.eq_nil_of_length_eq_zero (by simpa using hl)
  subst hx
  have hnv:¬NilV vb:=λ h=>Nat.lt_irrefl _ (hnn h)
  rcases hown.2 with⟨h,_⟩|⟨g,cap,cur,h,hrest⟩
  ·exact absurd h hnv
  ·subst h
   refine⟨g,cap,w,?_,?_,⟨rfl,rfl,rfl,Nat.le_refl _,λ _ _ _=>rfl⟩,.inr rfl⟩
   ·rcases e1 with e1|⟨a,c,e1⟩
    ·rw[e1];exact append_nil_run hu g1 _ n cap hrest.2.2.1 w
    ·rw[e1];exact append_nil_run2 hu g1 _ _ n cap _ hrest.2.2.1 w
   ·rw[List.append_nil];exact hown
theorem Rep.elems{ρ:Rho}{w:World}(h:Rep ρ m w){r:Nat}{R:Root}(hr:m[r]? =some R){n s:Nat}{f:Nat->Dat}(he:R.elems=some (n,s,f)):(∃e,R.con=some (.ow e n s f))/\RoOK ρ w (ρ r []) (ρ r) n s f:=by
 cases R with
 |dead=>cases he
 |mp=>cases he
 |var d=>cases he
 |row e n' s' f'=>cases he;exact⟨⟨e,rfl⟩,(h.row r _ _ [] e n s f hr rfl rfl rfl (.inl rfl)).ro⟩
 |ro n' s' f'=>cases he;exact⟨⟨0,rfl⟩,h.ro r _ _ [] 0 n s f hr (.inl rfl) rfl rfl⟩
theorem app_core{P:Program}{t ty e:TypeId}{i:TI}(hu:P.underlying t=some (.slice e))(hk:i.ok P e)(hby:i.bytes<=4096){ρ:Rho}{w:World}(h:Rep ρ m w){r n n':Nat}{f:Nat->Dat}{r2 off len n2:Nat}{R2:Root}{f2:Nat->Dat}{m1:List Root}{vb:Value}
  (hbase:(n=0/\vb=.slice none 0 0/\0<len/\m1=m.set r2 R2.given)\/(m[r]? =some (.row e n' i.sz f)/\n<=n'/\r≠r2/\vb=(ρ r []).slice 0 n i.sz/\m1=(m.set r .dead).set r2 R2.given))
  (hR2:m[r2]? =some R2) (he2:R2.elems=some (n2,i.sz,f2)) (hlen:off+len<=n2) (hb:n+len<=4294967296) (hread:AllP R2.readL):
  ∃ρ' w',(Builtin.append_ #[t,t] ty #[vb,(ρ r2 []).slice off len i.sz]).run P w=.ok (enc ρ' (.sl m.length 0 (n+len) i.sz)) w'/\Rep ρ' (m1++[.row e (n+len) i.sz (apF n f off f2)]) w'/\Tr ρ m w ρ' (m1++[.row e (n+len) i.sz (apF n f off f2)]) w':=by
 obtain⟨⟨e2,hcon2⟩,hro2⟩:=h.elems hR2 he2
 have hwf2:=h.wf r2 R2 _ hR2 hcon2
 have hw2:WF (.ar n2 i.sz f2):=hwf2.1
 have hw2':WF (.ar len i.sz λ j=>f2 (off+j)):=λ j hj=>hw2 (off+j) (by omega)
 let A2:List Nat->RV:=λ z=>match z with
  |[]=>default
  |k::z=>ρ r2 ((off+k)::z)
 --the base
 have hbase2:∃xs,w.ownsRow 0 e i.sz vb n xs/\xs=cells ρ (ρ r) (.ar n i.sz f)/\(NilV vb->0<len)/\(∀b,vb.ownBlock=some b->m[r]? =some (.row e n' i.sz f)/\n<=n'/\r≠r2/\(ρ r []).b=b/\∀X,m1[r]? =some X->X=.dead)/\
   (∀j,j<n->sz (f j)=i.sz/\WF (f j)/\Sc m.length (f j))/\(0<n->m[r]? =some (.row e n' i.sz f)/\n<=n'/\r≠r2/\∀X,m1[r]? =some X->X=.dead):=by
  rcases hbase with⟨rfl,rfl,h2,h3⟩|⟨h1,h2,h3,h4,h5⟩
  ·refine⟨[],World.ownsRow_nil w 0 e i.sz,by simp[cells],λ _=>h2,(λ b hb=>by cases hb),(λ j hj=>by omega),(λ hj=>by omega)⟩
  ·have hwf:=h.wf r _ _ h1 rfl
   have hrow:=(h.row r _ _ [] e n' i.sz f h1 rfl rfl rfl (.inl rfl)).pre hwf.1 h2 (λ _ _=>rfl)
   have hd:∀X,m1[r]? =some X->X=.dead:=by
    intro X hX
    rw[h5,List.getElem?_set_ne (Ne.symm h3),List.getElem?_set_self (List.getElem?_eq_some_iff.1 h1).1] at hX
    exact(Option.some.inj hX).symm
   obtain⟨blk,g1,g2,g3,g4,g5,g6,g7⟩:=hrow
   have hv:vb=.slice (some ⟨(ρ r []).b,0,none⟩) n (ρ r []).cap:=by
    rw[h4];unfold RV.slice;rw[g3];simp only[Nat.zero_mul,Nat.add_zero,Nat.sub_zero,g2]
   refine⟨cells ρ (ρ r) (.ar n i.sz f),⟨cells_length ρ _ _ (λ j hj=>hwf.1 j (by omega)),.inr ⟨(ρ r []).b,_,blk,hv,Nat.zero_le _,g1,g4,g5,g6,g7⟩⟩,rfl,λ hn=>?_,λ b hb=>?_,λ j hj=>?_,λ _=>⟨h1,h2,h3,hd⟩⟩
   ·rw[hv] at hn;cases hn
   ·rw[hv] at hb
    exact⟨h1,h2,h3,Option.some.inj hb,hd⟩
   ·exact⟨(hwf.1 j (by omega)).1,(hwf.1 j (by omega)).2,hwf.2 j (by omega)⟩
 obtain⟨xs,hown,hxs,hnn,hblkb,hbw,hbr⟩:=hbase2
 have hm1l:m1.length=m.length:=by rcases hbase with⟨_,_,_,h3⟩|⟨_,_,_,_,h3⟩<;>rw[h3]<;>simp
 have hm1:∀(j:Nat) (R:Root),m1[j]? =some R->R=.dead\/m[j]? =some R:=by
  have step:∀{m0:List Root},(∀(j:Nat) (R:Root),m0[j]? =some R->R=.dead\/m[j]? =some R)->∀(j:Nat) (R:Root),(m0.set r2 R2.given)[j]? =some R->R=.dead\/m[j]? =some R:=by
   intro m0 h0 j R hj
   rcases set_get hj with⟨rfl,rfl,_⟩|⟨_,hj⟩
   ·cases R2<;>first|exact .inl rfl|exact .inr hR2
   ·exact h0 j R hj
  rcases hbase with⟨_,_,_,h3⟩|⟨_,_,_,_,h3⟩
  ·rw[h3];exact step λ j R hj=>.inr hj
  ·rw[h3]
   refine step λ j R hj=>?_
   rcases set_get hj with⟨_,rfl,_⟩|⟨_,hj⟩
   ·exact .inl rfl
   ·exact .inr hj
 have hnl:(cells ρ A2 (.ar len i.sz λ j=>f2 (off+j))).length=len*i.sz:=cells_length ρ _ _ hw2'
 obtain⟨g,cap,w',hrun,hown',hgrow,hg⟩:=app_run (P:=P) (t:=t) (ty:=ty) hu hk hby hown hnn (ρ r2 []) off hnl
  (λ hz j u hj=>by
   rcases hro2 with⟨hz',_⟩|⟨_,_,_,_,hc⟩
   ·rw[hz] at hz';cases hz'
   ·have:=hc _ u (cells_mid hw2 hlen hj)
    rwa [<-Nat.add_assoc] at this)
  (λ hz=>by
   rcases hro2 with⟨_,hz'⟩|⟨hz',_⟩
   ·omega
   ·rw[hz] at hz';cases hz')
  (cells_one _ _ hw2') hb
 let A:List Nat->RV:=λ z=>match z with
  |[]=>⟨false,g,0,cap,none,0⟩
  |k::z=>if k<n then ρ r (k::z) else ρ r2 ((off+(k-n))::z)
 have apl:∀{k:Nat},k<n->apF n f off f2 k=f k:=λ hk=>by unfold apF;rw[show Nat.blt _ n=true from by rw[Nat.blt_eq];exact hk];rfl
 have apr:∀{k:Nat},¬k<n->apF n f off f2 k=f2 (off+(k-n)):=λ{k} hk=>by unfold apF;rw[show Nat.blt k n=false from by cases hh:Nat.blt k n with|false=>rfl|true=>rw[Nat.blt_eq] at hh;exact absurd hh hk];rfl
 have hall:xs++cells ρ A2 (.ar len i.sz λ j=>f2 (off+j))=cells ρ A (.ar (n+len) i.sz (apF n f off f2)):=by
  rw[hxs]
  simp only[cells]
  rw[List.range_add,List.flatMap_append,List.flatMap_map]
  congr 1
  ·apply flatMap_congr
   intro k hk
   have hk:=List.mem_range.1 hk
   rw[apl hk]
   congr 1
   funext z
   simp only[A,if_pos hk]
  ·apply flatMap_congr
   intro k hk
   have hk:=List.mem_range.1 hk
   rw[apr (k:=n+k) (by omega),show n+k-n=k by omega]
   congr 1
   funext z
   simp only[A,A2,if_neg (show¬n+k<n by omega),show n+k-n=k by omega]
 have hwn:WF (.ow e (n+len) i.sz (apF n f off f2)):=by
  intro k hk
  by_cases hkn:k<n
  ·rw[apl hkn];exact⟨(hbw k hkn).1,(hbw k hkn).2.1⟩
  ·rw[apr hkn];exact hw2 _ (by omega)
 have hsn:Sc m.length (.ow e (n+len) i.sz (apF n f off f2)):=by
  intro k hk
  by_cases hkn:k<n
  ·rw[apl hkn];exact(hbw k hkn).2.2
  ·rw[apr hkn];exact hwf2.2 _ (by omega)
 have hrow:RowOK ρ w' (A []) A e (n+len) i.sz (apF n f off f2):=by
  rcases hown'.2 with⟨h1,_⟩|⟨g',cap',cur,h1,_,h3,h4,h5,h6,h7⟩
  ·cases h1
  ·cases h1
   exact⟨cur,h3,rfl,rfl,h4,h5,h6,by rw[h7,hall]⟩
 have hres:=h.pushRow hm1l hm1 hgrow (run_drawn _ _ hrun) (λ b hb'=>by
   obtain⟨h1,_,_,h4,h5⟩:=hblkb b hb'
   exact⟨r,_,h1,rfl,rfl,h4,h5⟩) A hrow (hg.imp id id)
  (λ q=>match q with
   |[]=>(0,[])
   |k::z=>if k<n then(r,k::z) else(r2,(off+(k-n))::z)) ?_ ?_ hwn hsn
 ·refine⟨_,w',?_,hres.1,hres.2⟩
  rw[hrun]
  simp only[enc,leaf,ext_same,RV.slice,A,Nat.zero_mul,Nat.add_zero,Nat.sub_zero]
 ·intro q e' n0 s' f' hq hx
  cases q with
  |nil=>exact absurd rfl hq
  |cons k z=>
   simp only[nav] at hx
   split at hx
   ·rename_i hkl
    by_cases hkn:k<n
    ·obtain⟨h1,h2,h3,h4⟩:=hbr (by omega)
     rw[apl hkn] at hx
     simp only[if_pos hkn]
     refine⟨_,_,h1,rfl,?_,by simp,λ y=>?_,λ _=>⟨rfl,h4⟩⟩
     ·simp only[nav,if_pos (show k<n' by omega)];exact hx
     ·simp only[A,List.cons_append,if_pos hkn]
    ·rw[apr hkn] at hx
     simp only[if_neg hkn]
     refine⟨R2,_,hR2,hcon2,?_,by simp,λ y=>?_,λ he'=>?_⟩
     ·simp only[nav,if_pos (show off+(k-n)<n2 by omega)];exact hx
     ·simp only[A,List.cons_append,if_neg hkn]
     ·cases R2 with
      |dead=>cases he2
      |mp=>cases he2
      |var d=>cases he2
      |ro n3 s3 f3=>
       cases he2
       exact absurd (NoOwn_nav (hread _ (by omega)) hx).1 he'
      |row e3 n3 s3 f3=>
       refine⟨rfl,λ X hX=>?_⟩
       have hlt:r2<m.length:=(List.getElem?_eq_some_iff.1 hR2).1
       rcases hbase with⟨_,_,_,h3⟩|⟨_,_,_,_,h3⟩
       ·rw[h3,List.getElem?_set_self hlt] at hX;exact(Option.some.inj hX).symm
       ·rw[h3,List.getElem?_set_self (by simpa using hlt)] at hX;exact(Option.some.inj hX).symm
   ·cases hx
 ·intro q q' e' n0 s' f' d' hq hq' hx he hx' hsrc
  cases q with
  |nil=>exact absurd rfl hq
  |cons k z=>
   cases q' with
   |nil=>exact absurd rfl hq'
   |cons k' z'=>
    have hk1:k<n->r≠r2:=λ hk=>(hbr (by omega)).2.2.1
    have hk2:k'<n->r≠r2:=λ hk=>(hbr (by omega)).2.2.1
    by_cases h1:k<n<;>by_cases h2:k'<n<;>simp only[h1,h2,if_true,if_false,Prod.mk.injEq,List.cons.injEq] at hsrc
    ·obtain⟨_,rfl,rfl⟩:=hsrc;rfl
    ·exact absurd hsrc.1 (hk1 h1)
    ·exact absurd hsrc.1.symm (hk2 h2)
    ·obtain⟨_,h3,rfl⟩:=hsrc
     rw[show k=k' by omega]
theorem ok_app(hT:TOK P T){o:Oper}{t:TypeId}{x y:Operand}(ho:o.op=.call { callee:=.builtin .append,args:=#[x,y],argTypes:=#[t,t] })(h:appE T t (ev fr x) (ev fr y) m=some (ps,v,m'))(hp:AllP ps):OpOK P o fr m v m':=by
 unfold appE at h
 split at h
 case h_2=>cases h
 rename_i e sz0 by0 z0 r2 off len s2 ht hy
 split at h
 case h_2=>cases h
 rename_i i R2 hi hR2
 split at h
 case h_2=>cases h
 rename_i n2 s' f2 he2
 rw[cond_eq_ite] at h
 split at h
 case isFalse=>cases h
 rename_i hc
 simp only[Bool.and_eq_true] at hc
 obtain⟨hc1,hc2,hby⟩:=hc
 have hc1:=Nat.eq_of_beq_eq_true hc1
 have hc2:=Nat.eq_of_beq_eq_true hc2
 subst hc1;subst hc2
 have hby:=Nat.le_of_ble_eq_true hby
 have hk:=hT e i hi
 have hu:=(hT t _ ht).fits
 simp only[Ty.fits] at hu
 split at h
 ·rename_i r n s hx
  rw[cond_eq_ite] at h
  split at h
  case isFalse=>cases h
  rename_i hc
  simp only[Bool.and_eq_true,Bool.not_eq_true'] at hc
  obtain⟨hs,hne⟩:=hc
  have hs:=Nat.eq_of_beq_eq_true hs
  subst hs
  have hne:r≠r2:=λ e=>by subst e;rw[show Nat.beq r r=true from Nat.beq_refl r] at hne;cases hne
  split at h
  case h_2=>cases h
  rename_i e' n' s'' f hr0
  rw[cond_eq_ite] at h
  split at h
  case isFalse=>cases h
  rename_i hc
  simp only[Bool.and_eq_true] at hc
  obtain⟨h1,h2⟩:=hc
  have h1:=Nat.eq_of_beq_eq_true h1
  have h2:=Nat.eq_of_beq_eq_true h2
  subst h1;subst h2
  rw[fL_eq] at h
  simp only[Option.some.injEq,Prod.mk.injEq] at h
  obtain⟨rfl,rfl,rfl⟩:=h
  obtain⟨hp1,hread⟩:=AllP.app (l:=[n<=n',off+len<=n2,n+len<=4294967296]) hp
  obtain⟨hn,hl,hb⟩:=hp1
  have hb:n+len<=4294967296:=hb
  intro N ρ a w hf hr
  obtain⟨h0,_⟩:=ev_eq hf hx (by simp)
  obtain⟨h0',_⟩:=ev_eq hf hy (by simp)
  obtain⟨ρ',w',g1,g2,g3⟩:=app_core (P:=P) (t:=t) (ty:=o.type) hu hk hby hr (.inr ⟨hr0,hn,hne,rfl,rfl⟩) hR2 he2 hl hb hread
  refine⟨ρ',w',_,?_,.inl ⟨_,rfl,.inr ⟨rfl,by simp[Sc],trivial,trivial⟩⟩,g2,g3⟩
  simp only[enc,leaf] at h0 h0' g1 ⊢
  simp[execOp,ho,resolve,invoke,builtin,h0,h0',g1,Result.andThen]
 ·rename_i hx
  rw[fL_eq] at h
  simp only[Option.some.injEq,Prod.mk.injEq] at h
  obtain⟨rfl,rfl,rfl⟩:=h
  obtain⟨hp1,hread⟩:=AllP.app (l:=[0<len,off+len<=n2,len<=4294967296]) hp
  obtain⟨hn,hl,hb⟩:=hp1
  have hb:len<=4294967296:=hb
  intro N ρ a w hf hr
  obtain⟨h0,_⟩:=ev_eq hf hx (by simp)
  obtain⟨h0',_⟩:=ev_eq hf hy (by simp)
  obtain⟨ρ',w',g1,g2,g3⟩:=app_core (P:=P) (t:=t) (ty:=o.type) (r:=0) (n':=0) (f:=f2) hu hk hby hr (.inl ⟨rfl,rfl,hn,rfl⟩) hR2 he2 hl (by omega) hread
  rw[Nat.zero_add] at g1 g2 g3
  refine⟨ρ',w',_,?_,.inl ⟨_,rfl,.inr ⟨rfl,by simp[Sc],trivial,trivial⟩⟩,g2,g3⟩
  simp only[enc,leaf] at h0 h0' g1 ⊢
  simp[execOp,ho,resolve,invoke,builtin,h0,h0',g1,Result.andThen]
 ·cases h
end
end Go.Proofs.YthjnmlpibafbnaaGreat.DM
