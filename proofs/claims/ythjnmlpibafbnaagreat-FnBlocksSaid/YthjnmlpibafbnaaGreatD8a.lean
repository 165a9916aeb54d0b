import Derived.Test.YthjnmlpibafbnaaGreatD6
namespace Go.Proofs.YthjnmlpibafbnaaGreat.DM
open Go.RowKit
section
variable {P:Program}{T:TyEnv}{fr:Nat->Dat}{m m':List Root}{v:Dat}{ps:List Prop}{wm:Bool}{N:Nat}{ρ:Rho}{a:Act}{w:World}
theorem kEq_ok:∀{k k':IntKind},kEq k k'=true->k=k':=by
 intro k k' h
 cases k<;>cases k'<;>first|rfl|cases h
theorem binI_ok{op:BinOp}{k k':IntKind}{x y:Int}(h:binI wm op k x y=some (ps,v))(hk:(kEq k k'||isSh op)=true)(hp:AllP ps)(t:TypeId)(w:World):
  (binOp op t (.int k x) (.int k' y)).run P w=.ok (enc ρ v) w/\Sc m.length v/\Ok v:=by
 have hkk:isSh op=false->k=k':=λ hs=>by rw[hs,Bool.or_false] at hk;exact kEq_ok hk
 have hnum:∀{z:Int},AllP (num wm k z).1->(enc ρ (num wm k z).2=.int k (k.wrap z))/\Sc m.length (num wm k z).2/\Ok (num wm k z).2:=λ hp=>by
  rw[num_ok hp];exact⟨rfl,trivial,trivial,trivial⟩
 cases op<;>simp only[binI,Option.some.injEq,Prod.mk.injEq,reduceCtorEq] at h
 case add=>obtain⟨rfl,rfl⟩:(num wm k (x+y)).1=ps/\(num wm k (x+y)).2=v:=(by rw[h];exact⟨rfl,rfl⟩);have hk:=hkk rfl;subst hk;have:=hnum hp;refine⟨?_,this.2⟩;rw[this.1];simp[binOp,Op.intArith]
 case sub=>obtain⟨rfl,rfl⟩:(num wm k (x-y)).1=ps/\(num wm k (x-y)).2=v:=(by rw[h];exact⟨rfl,rfl⟩);have hk:=hkk rfl;subst hk;have:=hnum hp;refine⟨?_,this.2⟩;rw[this.1];simp[binOp,Op.intArith]
 case mul=>obtain⟨rfl,rfl⟩:(num wm k (x*y)).1=ps/\(num wm k (x*y)).2=v:=(by rw[h];exact⟨rfl,rfl⟩);have hk:=hkk rfl;subst hk;have:=hnum hp;refine⟨?_,this.2⟩;rw[this.1];simp[binOp,Op.intArith]
 case quo=>
  obtain⟨rfl,rfl⟩:=h;have hk:=hkk rfl;subst hk
  obtain⟨h1,h2⟩:=hp.cons
  have:=hnum h2;refine⟨?_,this.2⟩;rw[this.1];simp[binOp,Op.intDiv,h1]
 case rem=>
  obtain⟨rfl,rfl⟩:=h;have hk:=hkk rfl;subst hk
  have hp:y≠0:=hp
  refine⟨?_,trivial,trivial,trivial⟩;simp[binOp,Op.intDiv,hp,enc,leaf]
 case and=>obtain⟨rfl,rfl⟩:=h;have hk:=hkk rfl;subst hk;exact⟨by simp[binOp,Op.intBits,enc,leaf],trivial,trivial,trivial⟩
 case or=>obtain⟨rfl,rfl⟩:=h;have hk:=hkk rfl;subst hk;exact⟨by simp[binOp,Op.intBits,enc,leaf],trivial,trivial,trivial⟩
 case xor=>obtain⟨rfl,rfl⟩:=h;have hk:=hkk rfl;subst hk;exact⟨by simp[binOp,Op.intBits,enc,leaf],trivial,trivial,trivial⟩
 case shl=>obtain⟨rfl,rfl⟩:=h;have hp:0<=y:=hp;exact⟨by simp[binOp,Op.shift,enc,leaf,show¬y<0 by omega],trivial,trivial,trivial⟩
 case shr=>obtain⟨rfl,rfl⟩:=h;have hp:0<=y:=hp;exact⟨by simp[binOp,Op.shift,enc,leaf,show¬y<0 by omega],trivial,trivial,trivial⟩
 case eql=>obtain⟨rfl,rfl⟩:=h;have hk:=hkk rfl;subst hk;exact⟨by simp[binOp,Op.intCmp,enc,leaf];rfl,trivial,trivial,trivial⟩
 case neq=>obtain⟨rfl,rfl⟩:=h;have hk:=hkk rfl;subst hk;exact⟨by simp[binOp,Op.intCmp,enc,leaf,bne];rfl,trivial,trivial,trivial⟩
 case lss=>obtain⟨rfl,rfl⟩:=h;have hk:=hkk rfl;subst hk;exact⟨by simp[binOp,Op.intCmp,enc,leaf],trivial,trivial,trivial⟩
 case leq=>obtain⟨rfl,rfl⟩:=h;have hk:=hkk rfl;subst hk;exact⟨by simp[binOp,Op.intCmp,enc,leaf],trivial,trivial,trivial⟩
 case gtr=>obtain⟨rfl,rfl⟩:=h;have hk:=hkk rfl;subst hk;exact⟨by simp[binOp,Op.intCmp,enc,leaf],trivial,trivial,trivial⟩
 case geq=>obtain⟨rfl,rfl⟩:=h;have hk:=hkk rfl;subst hk;exact⟨by simp[binOp,Op.intCmp,enc,leaf],trivial,trivial,trivial⟩
theorem eqGuard_run{op:BinOp}{t:TypeId}{x y:Operand}{u u':Value}(h:∀d,u≠.nilIface/\u≠.agg d)(w:World):(eqGuard op t x y u u').run P w=.ok () w:=by
 cases u with
 |nilIface=>exact absurd rfl (h #[]).1
 |agg d=>exact absurd rfl (h d).2
 |_=>unfold eqGuard;split<;>first|rfl|(cases u'<;>rfl)
theorem bin_ok(hT:TOK P T){op:BinOp}{t:TypeId}{x y:Dat}(h:bin T wm op t x y=some (ps,v))(hp:AllP ps)(ρ:Rho)(m:List Root)(w:World):
  (binOp op t (enc ρ x) (enc ρ y)).run P w=.ok (enc ρ v) w/\Sc m.length v/\Ok v/\∀d,enc ρ x≠.nilIface/\enc ρ x≠.agg d:=by
 unfold bin at h
 split at h
 ·rename_i k x k' y
  cases hk:kEq k k'||isSh op with
  |false=>rw[hk] at h;cases h
  |true=>
   rw[hk] at h
   have:=binI_ok (m:=m) (ρ:=ρ) (P:=P) h hk hp t w
   exact⟨this.1,this.2.1,this.2.2,λ d=>⟨by simp[enc,leaf],by simp[enc,leaf]⟩⟩
 ·rename_i x y
  have main:∀s b z,T t=some ⟨.bool,s,b,z⟩->(Op.equal t (.bool x) (.bool y)).run P w=.ok (x==y) w:=by
   intro s b z ht
   have hf:=(hT t _ ht).fits
   simp only[Ty.fits] at hf
   unfold Op.equal
   show(Op.equalIn (9999+1) t (.bool x) (.bool y)).run P w=_
   unfold Op.equalIn
   simp only[Sem.run_bind,run_underlying hf w,Result.andThen_ok]
   rfl
  split at h
  ·rename_i ht
   simp only[Option.some.injEq,Prod.mk.injEq] at h
   obtain⟨rfl,rfl⟩:=h
   refine⟨?_,trivial,⟨trivial,trivial⟩,λ d=>⟨by simp[enc,leaf],by simp[enc,leaf]⟩⟩
   simp only[enc,leaf,binOp,Sem.run_bind,main _ _ _ ht,Result.andThen_ok,Sem.run_pure]
  ·rename_i ht
   simp only[Option.some.injEq,Prod.mk.injEq] at h
   obtain⟨rfl,rfl⟩:=h
   refine⟨?_,trivial,⟨trivial,trivial⟩,λ d=>⟨by simp[enc,leaf],by simp[enc,leaf]⟩⟩
   simp only[enc,leaf,binOp,Sem.run_bind,main _ _ _ ht,Result.andThen_ok,Sem.run_pure]
  ·cases h
 ·cases h
theorem part_scalar{cs:Array Value}{t:TypeId}{i:TI}(hi:i.ok P t)(hag:i.ty.agg=false){o:Nat}{u:Value}(hu:cs[o]? =some u)(w:World):(part t cs o).run P w=.ok u w:=by
 unfold part
 rw[Sem.run_bind,isAgg_run hi w,hag]
 simp[hu]
theorem part_agg{cs:Array Value}{t:TypeId}{i:TI}(hi:i.ok P t)(hag:i.ty.agg=true){o:Nat}(w:World):(part t cs o).run P w=.ok (.agg (cs.extract o (o+i.sz))) w:=by
 unfold part
 rw[Sem.run_bind,isAgg_run hi w,hag]
 simp[sizeOf_run hi w]
theorem part_run{t:TypeId}{i:TI}(hi:i.ok P t){d x:Dat}{q:List Nat}(hd:WF d/\Pl d)(hn:navL d q=some x)(hf:fit i x=true)(w:World):
  (part t (cells ρ noA d).toArray (offs d q)).run P w=.ok (enc ρ x) w:=by
 obtain⟨hx,pre,post,hl,hc,_⟩:=focus_cells ρ (A:=noA) hd.1 hn
 obtain⟨hs,hf1,hf2⟩:=fit_sz hf
 have hA:cells ρ (λ z=>noA (q++z)) x=cells ρ noA x:=rfl
 rw[hA] at hc
 have hlen:(cells ρ noA x).length=i.sz:=by rw[cells_length ρ _ _ hx,hs]
 cases hag:i.ty.agg with
 |false=>
  have hsc:=hf1 hag
  have h1:cells ρ noA x=[enc ρ x]:=by cases x<;>first|rfl|cases hsc
  refine part_scalar hi hag ?_ w
  rw[hc, <-hl,h1]
  simp
 |true=>
  rw[part_agg hi hag w,hc, <-hl, <-hlen]
  have:((pre++cells ρ noA x++post).toArray.extract pre.length (pre.length+(cells ρ noA x).length))=(cells ρ noA x).toArray:=by
   apply Array.ext'
   simp[List.append_assoc]
  rw[this]
  rcases hf2 hag with⟨n,s,f,rfl⟩|⟨n,f,rfl⟩<;>rfl
theorem rowy_nil{r:Nat}{R:Root}(hR:m[r]? =some R)(hn:R.rowy=true){off len:Nat}{z:Int}(h3:R.holds off len)(h1:0<=z)(h2:z<len){ρ:Rho}{w:World}(hr:Rep ρ m w):(ρ r []).nil=false:=by
 cases R with
 |dead=>cases hn
 |mp=>cases hn
 |var d=>exact hr.mine_nil hR rfl (.inl ⟨rfl,rfl⟩)
 |row e n s f=>exact hr.mine_nil hR rfl (.inl ⟨rfl,rfl⟩)
 |ro n s f=>
  rcases hr.ro r _ _ [] 0 n s f hR (.inl rfl) rfl rfl with⟨_,hz⟩|⟨h1,_⟩
  ·have h3:off+len<=n:=h3
   omega
  ·exact h1
end
end Go.Proofs.YthjnmlpibafbnaaGreat.DM
namespace Go.Proofs.YthjnmlpibafbnaaGreat.DM
open Go.RowKit
section
variable {P:Program}{T:TyEnv}{fr:Nat->Dat}{m m':List Root}{v:Dat}{ps:List Prop}{wm:Bool}
theorem ok_move{o:Oper}{x:Operand}(ho:o.op=.move x\/o.op=.assign x):QOK P o fr m (ev fr x) m:=
 .plain λ N ρ a hf=>⟨a.eval x,λ w _=>⟨by rcases ho with ho|ho<;>simp[execOp,ho],ev_ok hf x⟩⟩
theorem QOK.of_run{o:Oper}(h:∀(N:Nat) (ρ:Rho) (a:Act) (w:World),Frm m.length ρ N fr a.tmps->Rep ρ m w->
  (execOp a.eval o).run P w=.ok (.value (enc ρ v)) w/\Sc m.length v/\Ok v):QOK P o fr m v m:=
 .plain λ N ρ a hf=>⟨enc ρ v,λ w hr=>let ⟨h1,h2,h3⟩:=h N ρ a w hf hr;⟨h1,.inr ⟨rfl,h2,h3⟩⟩⟩
theorem enc_noR{d:Dat}(h:Sc 0 d)(ρ:Rho):enc noR d=enc ρ d:=enc_congr (n:=0) (λ _ h=>absurd h (Nat.not_lt_zero _)) d h
theorem newVar_ok{t:TypeId}{d:Dat}{ρ:Rho}{w:World}(hr:Rep ρ m w)(hp:Pl d)(hw:WF d)(hs:Sc m.length d):
  ∃ρ' w',(newVar t (enc ρ d)).run P w=.ok ⟨w.heap.size,0,none⟩ w'/\enc ρ' (.p m.length [] 0)=.pointer (some ⟨w.heap.size,0,none⟩)/\Rep ρ' (m++[.var d]) w'/\Tr ρ m w ρ' (m++[.var d]) w':=by
 obtain⟨h1,h2⟩:=hr.newVar d t hp hw hs
 refine⟨_,_,?_,?_,h1,h2⟩
 ·unfold newVar newRow
  rw[enc_cells d hw]
  rfl
 ·simp only[enc,leaf,ext_same]
theorem ok_alloc(hT:TOK P T){o:Oper}{t:TypeId}{i:TI}(ho:o.op=.alloc t)(hi:T t=some i):OpOK P o fr m (.p m.length [] 0) (m++[.var i.z]):=by
 intro N ρ a w hf hr
 have hk:=hT t i hi
 obtain⟨ρ',w',h1,h2,h3,h4⟩:=newVar_ok (P:=P) (t:=t) hr hk.pl hk.wf (hk.sc.mono (Nat.zero_le _))
 refine⟨ρ',w',_,?_,.inl ⟨_,rfl,.inr ⟨h2.symm,?_,trivial,trivial⟩⟩,h3,h4⟩
 ·simp[execOp,ho,Instr.alloc,zeroValue_run hk w,enc_noR hk.sc ρ,h1]
 ·simp[Sc]
theorem wfpl_of_fit{i:TI}{x:Dat}(hf:fit i x=true)(h:Ok x):WF x/\Pl x:=by
 have:∀n f,x≠.tup n f:=by
  rintro n f rfl
  cases hag:i.ty.agg with
  |true=>rcases(fit_sz hf).2.2 hag with⟨_,_,_,e⟩|⟨_,_,e⟩<;>cases e
  |false=>have:=(fit_sz hf).2.1 hag;cases this
 cases x<;>first|exact h|exact absurd rfl (this _ _)
theorem ne_un_of_fit{i:TI}{x:Dat}(hf:fit i x=true):x≠.un:=by
 rintro rfl
 cases hag:i.ty.agg with
 |true=>rcases(fit_sz hf).2.2 hag with⟨_,_,_,e⟩|⟨_,_,e⟩<;>cases e
 |false=>have:=(fit_sz hf).2.1 hag;cases this
theorem fit_un(i:TI):fit i .un=false:=by
 cases h:fit i .un with
 |false=>rfl
 |true=>exact absurd rfl (ne_un_of_fit h)
theorem ok_box{o:Oper}{t:TypeId}{x:Operand}{i:TI}(ho:o.op=.box t x)(hfit:fit i (ev fr x)=true):OpOK P o fr m (.p m.length [] 0) (m++[.var (ev fr x)]):=by
 intro N ρ a w hf hr
 obtain⟨h0,hs,hok⟩:=ev_eq hf (x:=x) rfl (ne_un_of_fit hfit)
 obtain⟨hw,hp⟩:=wfpl_of_fit hfit hok
 obtain⟨ρ',w',h1,h2,h3,h4⟩:=newVar_ok (P:=P) (t:=t) hr hp hw hs
 refine⟨ρ',w',_,?_,.inl ⟨_,rfl,.inr ⟨h2.symm,?_,trivial,trivial⟩⟩,h3,h4⟩
 ·simp[execOp,ho,Instr.box,h0,h1]
 ·simp[Sc]
theorem ok_load(hT:TOK P T){o:Oper}{t:TypeId}{x:Operand}(ho:o.op=.load t x)(h:loadE T t (ev fr x) m=some (ps,v))(hp:AllP ps):QOK P o fr m v m:=
 .of_run λ N ρ a w hf hr=>by
  have hne:ev fr x≠.un:=by intro e;rw[e] at h;simp[loadE] at h
  obtain⟨h1,h2,h3⟩:=loadE_ok hT h hp hr
  obtain⟨h0,_⟩:=ev_eq hf (x:=x) rfl hne
  exact⟨by simp[execOp,ho,h0,h1],h2,h3⟩
theorem ok_store(hT:TOK P T){o:Oper}{t:TypeId}{x y:Operand}(ho:o.op=.store t x y)(h:storeE T t (ev fr x) (ev fr y) m=some (ps,m'))(hp:AllP ps):OpOK P o fr m .un m':=by
 intro N ρ a w hf hr
 have hne:ev fr x≠.un:=by intro e;rw[e] at h;simp[storeE] at h
 have hne2:ev fr y≠.un:=by
  intro e;rw[e] at h
  unfold storeE at h
  split at h
  ·split at h
   ·rename_i R hR
    cases hm:R.mine with
    |false=>rw[hm] at h;cases h
    |true=>
     rw[hm] at h
     simp only[cond_true] at h
     split at h
     ·rw[fit_un] at h;cases h
     ·cases h
   ·cases h
  ·cases h
 obtain⟨h0,_⟩:=ev_eq hf (x:=x) rfl hne
 obtain⟨h0',hs',hok'⟩:=ev_eq hf (x:=y) rfl hne2
 obtain⟨w',h1,h2,h3⟩:=storeE_ok hT h hp hr hs' hok'
 exact⟨ρ,w',.skip,by simp[execOp,ho,h0,h0',h1],.inr ⟨rfl,rfl⟩,h2,h3⟩
theorem ok_bin(hT:TOK P T){o:Oper}{op:BinOp}{t t':TypeId}{x y:Operand}(ho:o.op=.binOp op t x y t')(h:bin T wm op t (ev fr x) (ev fr y)=some (ps,v))(hp:AllP ps):QOK P o fr m v m:=
 .of_run λ N ρ a w hf hr=>by
  have hne:ev fr x≠.un/\ev fr y≠.un:=by
   constructor
   ·intro e;rw[e] at h;simp[bin] at h
   ·intro e;rw[e] at h;unfold bin at h;split at h<;>first|(rename_i hy;cases hy;done)|(cases h;done)|simp_all
  obtain⟨h0,_⟩:=ev_eq hf (x:=x) rfl hne.1
  obtain⟨h0',_⟩:=ev_eq hf (x:=y) rfl hne.2
  obtain⟨h1,h2,h3,h4⟩:=bin_ok hT h hp ρ m w
  exact⟨by simp[execOp,ho,h0,h0',eqGuard_run h4 w,h1],h2,h3⟩
theorem ok_not{o:Oper}{t:TypeId}{x:Operand}{b:Bool}(ho:o.op=.unOp .not t x)(h:ev fr x=.b b):QOK P o fr m (.b (!b)) m:=
 .of_run λ N ρ a w hf hr=>by
  obtain⟨h0,_⟩:=ev_eq hf h (by simp)
  exact⟨by simp[execOp,ho,h0,enc,leaf,Op.unary],trivial,trivial,trivial⟩
theorem ok_neg{o:Oper}{t:TypeId}{x:Operand}{k:IntKind}{z:Int}(ho:o.op=.unOp .neg t x)(h:ev fr x=.i k z)(hp:AllP (num wm k (0-z)).1):QOK P o fr m (num wm k (0-z)).2 m:=
 .of_run λ N ρ a w hf hr=>by
  obtain⟨h0,_⟩:=ev_eq hf h (by simp)
  rw[num_ok hp]
  exact⟨by simp[execOp,ho,h0,enc,leaf,Op.unary,Op.intArith],trivial,trivial,trivial⟩
theorem ok_pick{o:Oper}{c x y:Operand}{b:Bool}(ho:o.op=.pick c x y)(h:ev fr c=.b b):QOK P o fr m (bif b then ev fr x else ev fr y) m:=
 .plain λ N ρ a hf=>by
  obtain⟨h0,_⟩:=ev_eq hf h (by simp)
  cases b with
  |true=>exact⟨a.eval x,λ w _=>⟨by simp[execOp,ho,h0,enc,leaf,asBool],ev_ok hf x⟩⟩
  |false=>exact⟨a.eval y,λ w _=>⟨by simp[execOp,ho,h0,enc,leaf,asBool],ev_ok hf y⟩⟩
theorem ok_conv(hT:TOK P T){o:Oper}{s t:TypeId}{x:Operand}{k k1 k2:IntKind}{z:Int}{a1 a2 b1 b2:Nat}{z1 z2:Dat}(ho:o.op=.convert s t x)(hs:T s=some ⟨.int k1,a1,b1,z1⟩)(ht:T t=some ⟨.int k,a2,b2,z2⟩)
  (h:ev fr x=.i k2 z) (hp:AllP (num wm k z).1):QOK P o fr m (num wm k z).2 m:=
 .of_run λ N ρ a w hf hr=>by
  obtain⟨h0,_⟩:=ev_eq hf h (by simp)
  have hs':=(hT s _ hs).fits
  have ht':=(hT t _ ht).fits
  simp only[Ty.fits] at hs' ht'
  rw[num_ok hp]
  exact⟨by simp[execOp,ho,h0,enc,leaf,convert,run_underlying hs',run_underlying ht',Conv.intToInt],trivial,trivial,trivial⟩
theorem ok_extract{o:Oper}{x:Operand}{n j:Nat}{f:Nat->Dat}(ho:o.op=.extract x j)(h:ev fr x=.tup n f)(hj:j<n):QOK P o fr m (f j) m:=
 .of_run λ N ρ a w hf hr=>by
  obtain⟨h0,hs,hok⟩:=ev_eq hf h (by simp)
  refine⟨?_,hs j hj,hok j hj⟩
  simp[execOp,ho,h0,enc,Instr.extract,hj]
theorem ok_nilCheck{o:Oper}{x:Operand}{r c:Nat}{q:List Nat}(ho:o.op=.nilCheck x)(h:ev fr x=.p r q c):QOK P o fr m (.p r q c) m:=
 .of_run λ N ρ a w hf hr=>by
  obtain⟨h0,hs,hok⟩:=ev_eq hf h (by simp)
  exact⟨by simp[execOp,ho,h0,enc,leaf],hs,hok⟩
theorem ok_fieldAddr(hT:TOK P T){o:Oper}{t:TypeId}{x:Operand}{j:Nat}{fs:List (TypeId×Nat)}{a1 b1:Nat}{z1:Dat}{r off ft c:Nat}{q:List Nat}{i:TI}(ho:o.op=.fieldAddr t x j)(ht:T t=some ⟨.st fs,a1,b1,z1⟩)
  (h:ev fr x=.p r q c) (hj:fs[j]? =some (ft,off)) (hi:T ft=some i) (hz:i.sz≠0):QOK P o fr m (.p r (q++[j]) (c+off)) m:=
 .of_run λ N ρ a w hf hr=>by
  obtain⟨h0,hs,_⟩:=ev_eq hf h (by simp)
  obtain⟨fields,hu,hfs⟩:=(hT t _ ht).fits
  refine⟨?_,hs,trivial,trivial⟩
  rw[<-hfs] at hj
  simp only[List.getElem?_map] at hj
  cases hq:fields[j]? with
  |none=>
    have:fields.toList[j]? =none:=by simpa using hq
    rw[this] at hj;cases hj
  |some f=>
   have:fields.toList[j]? =some f:=by simpa using hq
   rw[this] at hj
   simp only[Option.map_some,Option.some.injEq,Prod.mk.injEq] at hj
   have hsz:=sizeOf_run (hT ft i hi) w
   rw[<-hj.1] at hsz
   simp[execOp,ho,h0,enc,leaf,Instr.fieldAt,Instr.sureAddr,run_underlying hu,hq,fieldPlace,hsz,hz,addr_add,hj.2,Nat.add_assoc]
theorem ok_indexArr(hT:TOK P T){o:Oper}{t e:TypeId}{x y:Operand}{n:Nat}{a1 b1:Nat}{z1:Dat}{r c:Nat}{q:List Nat}{i:TI}{k:IntKind}{z:Int}(ho:o.op=.indexAddr t x y)(ht:T t=some ⟨.arr n e,a1,b1,z1⟩)
  (h:ev fr x=.p r q c) (hy:ev fr y=.i k z) (hi:T e=some i) (h1:0<=z) (h2:z<n):QOK P o fr m (.p r (q++[z.toNat]) (c+z.toNat*i.sz)) m:=
 .of_run λ N ρ a w hf hr=>by
  obtain⟨h0,hs,_⟩:=ev_eq hf h (by simp)
  obtain⟨h0',_⟩:=ev_eq hf hy (by simp)
  have hu:=(hT t _ ht).fits
  simp only[Ty.fits] at hu
  refine⟨?_,hs,trivial,trivial⟩
  simp[execOp,ho,h0,h0',enc,leaf,Instr.indexAt,asIntOf,Instr.sureAddr,run_underlying hu,h1,h2,sizeOf_run (hT e i hi),addr_add,Nat.add_assoc]
theorem ok_indexSl(hT:TOK P T){o:Oper}{t e:TypeId}{x y:Operand}{a1 b1:Nat}{z1:Dat}{r off len s:Nat}{i:TI}{k:IntKind}{z:Int}(ho:o.op=.indexAddr t x y)(ht:T t=some ⟨.slice e,a1,b1,z1⟩)
  (h:ev fr x=.sl r off len s) (hy:ev fr y=.i k z) (hi:T e=some i) (hsz:i.sz=s) (h1:0<=z) (h2:z<len) (hn:∀ρ w,Rep ρ m w->(ρ r []).nil=false):QOK P o fr m (.p r [addrAt off z.toNat] (0+addrAt off z.toNat*s)) m:=
 .of_run λ N ρ a w hf hr=>by
  obtain⟨h0,hs,_⟩:=ev_eq hf h (by simp)
  obtain⟨h0',_⟩:=ev_eq hf hy (by simp)
  have hu:=(hT t _ ht).fits
  simp only[Ty.fits] at hu
  have hnil:=hn ρ w hr
  refine⟨?_,hs,trivial,trivial⟩
  have ha:addrAt off z.toNat=off+z.toNat:=by cases off<;>simp[addrAt]
  simp[execOp,ho,h0,h0',enc,leaf,RV.slice,hnil,Instr.indexAt,asIntOf,run_underlying hu,h1,h2,sizeOf_run (hT e i hi),addr_add,hsz,ha,Nat.add_mul,Nat.add_assoc]
theorem ok_index(hT:TOK P T){o:Oper}{t e:TypeId}{x y:Operand}{n:Nat}{a1 b1:Nat}{z1:Dat}{s:Nat}{f:Nat->Dat}{i:TI}{k:IntKind}{z:Int}(ho:o.op=.index t x y)(ht:T t=some ⟨.arr n e,a1,b1,z1⟩)
  (h:ev fr x=.ar n s f) (hy:ev fr y=.i k z) (hi:T e=some i) (hsz:s=i.sz) (hft:fit i (f z.toNat)=true) (h1:0<=z) (h2:z<n):QOK P o fr m (f z.toNat) m:=
 .of_run λ N ρ a w hf hr=>by
  obtain⟨h0,hs,hok⟩:=ev_eq hf h (by simp)
  obtain⟨h0',_⟩:=ev_eq hf hy (by simp)
  have hu:=(hT t _ ht).fits
  simp only[Ty.fits] at hu
  have hlt:z.toNat<n:=by omega
  have hn:navL (.ar n s f) [z.toNat]=some (f z.toNat):=by simp[navL,hlt]
  have hp:=part_run (P:=P) (ρ:=ρ) (hT e i hi) (d:=.ar n s f) hok hn hft w
  have ho':offs (.ar n s f) [z.toNat]=z.toNat*i.sz:=by simp[offs,hsz]
  rw[ho'] at hp
  refine⟨?_,hs _ hlt,ok_of (hok.1 _ hlt).2 (hok.2 _ hlt)⟩
  simp[execOp,ho,h0,h0',enc,leaf,Instr.index,asIntOf,run_underlying hu,h1,h2,sizeOf_run (hT e i hi),hp]
theorem ok_indexStr(hT:TOK P T){o:Oper}{t:TypeId}{x y:Operand}{a1 b1:Nat}{z1:Dat}{s:ByteArray}{k:IntKind}{z:Int}(ho:o.op=.index t x y)(ht:T t=some ⟨.str,a1,b1,z1⟩)
  (h:ev fr x=.s s) (hy:ev fr y=.i k z) (h1:0<=z) (h2:z<s.size):QOK P o fr m (.i .u8 (byteAt s z.toNat)) m:=
 .of_run λ N ρ a w hf hr=>by
  obtain⟨h0,hs,hok⟩:=ev_eq hf h (by simp)
  obtain⟨h0',_⟩:=ev_eq hf hy (by simp)
  have hu:=(hT t _ ht).fits
  simp only[Ty.fits] at hu
  have hlt:z.toNat<s.size:=by omega
  refine⟨?_,trivial,trivial,trivial⟩
  have hb:s[z.toNat]? =some (s.data.getD z.toNat 0):=by
   have:z.toNat<s.data.size:=hlt
   rw[show s[z.toNat]? =some s[z.toNat] from getElem?_pos s z.toNat hlt]
   have e1:s.data.getD z.toNat 0=s.data[z.toNat]:=by unfold Array.getD;rw[dif_pos this];rfl
   rw[e1];rfl
  simp[execOp,ho,h0,h0',enc,leaf,Instr.index,asIntOf,run_underlying hu,h1,hb,byteAt]
theorem foldSet:∀(vs:List Value) (k off:Nat) (cs:Array Value),off+k+vs.length<=cs.size->
  ((vs.zipIdx k).foldl (λ cs (x:Value×Nat)=>cs.setIfInBounds (off+x.2) x.1) cs).toList=cs.toList.take (off+k)++vs++cs.toList.drop (off+k+vs.length)
 |[],k,off,cs,_=>by simp
 |v::vs,k,off,cs,h=>by
  simp only[List.zipIdx_cons,List.foldl_cons]
  rw[foldSet vs (k+1) off _ (by simp at h ⊢;omega)]
  have hl:off+k<cs.toList.length:=by simp at h ⊢;omega
  apply List.ext_getElem?
  intro j
  simp only[Array.toList_setIfInBounds,List.getElem?_append,List.length_append,List.length_take,List.length_set,List.length_cons]
  simp only[List.length_cons] at h
  have e1:min (off+(k+1)) cs.toList.length=off+k+1:=by simp at hl ⊢;omega
  have e2:min (off+k) cs.toList.length=off+k:=by simp at hl ⊢;omega
  rw[e1,e2]
  by_cases h1:j<off+k
  ·rw[if_pos (by omega),if_pos (by omega),if_pos (by omega),if_pos (by omega),List.getElem?_take,List.getElem?_take,if_pos (by omega),if_pos (by omega),List.getElem?_set_ne (by omega)]
  ·by_cases h2:j=off+k
   ·subst h2
    rw[if_pos (by omega),if_pos (by omega),if_pos (by omega),if_neg (by omega),List.getElem?_take,if_pos (by omega),List.getElem?_set_self hl]
    simp
   ·by_cases h3:j<off+k+1+vs.length
    ·rw[if_pos (by omega),if_neg (by omega),if_pos (by omega),if_neg (by omega),show j-(off+k)=(j-(off+k+1))+1 by omega]
     simp
    ·rw[if_neg (by omega),if_neg (by omega),List.getElem?_drop,List.getElem?_drop,List.getElem?_set_ne (by omega)]
     congr 1
     omega
theorem fill_ok(hT:TOK P T){ρ:Rho}{pt:Nat->Option (TypeId×Nat)}{place:Nat->Option (Nat×Nat)}(hpt:∀i t off ti,pt i=some (t,off)->T t=some ti->place i=some (off,ti.sz)):
  ∀{l:List (Nat×Dat)}{d x:Dat}{ps:List Prop},buildE T pt d l=some (ps,x)->AllP ps->WF d->Pl d->(∀y∈l,Ok y.2)->
   Instr.fill place (cells ρ noA d).toArray (l.map λ y=>(y.1,enc ρ y.2))=some (cells ρ noA x).toArray/\WF x/\Pl x/\DM.sz x=DM.sz d/\((∀n s f,d=.ar n s f->∃f',x=.ar n s f')/\(∀n f,d=.st n f->∃f',x=.st n f'))/\∀k,Sc k d->(∀y∈l,Sc k y.2)->Sc k x
 |[],d,x,ps,h,_,hw,hp,_=>by
  simp only[buildE,Option.some.injEq,Prod.mk.injEq] at h
  obtain⟨_,rfl⟩:=h
  exact⟨rfl,hw,hp,rfl,⟨λ n s f e=>⟨f,e⟩,λ n f e=>⟨f,e⟩⟩,λ k hk _=>hk⟩
 |(i,v)::rest,d,x,ps,h,hall,hw,hp,hok=>by
  simp only[buildE] at h
  split at h
  case h_2=>cases h
  rename_i t off hpt'
  split at h
  case h_2=>cases h
  rename_i ti hti
  split at h
  case h_2=>cases h
  rename_i qs old hnav
  rw[cond_eq_ite] at h
  split at h
  case isFalse=>cases h
  rename_i hc
  simp only[Bool.and_eq_true] at hc
  obtain⟨⟨hf1,hf2⟩,hoff⟩:=hc
  split at h
  case h_2=>cases h
  rename_i rs x' hrest
  simp only[Option.some.injEq,Prod.mk.injEq] at h
  obtain⟨rfl,rfl⟩:=h
  obtain⟨hq,hr⟩:=hall.app
  have hn:=navE_ok hnav hq
  obtain⟨hwv,hpv⟩:=wfpl_of_fit hf1 (hok (i,v) (by simp))
  obtain⟨hwo,pre,post,hl,hcs,hcu,hwu⟩:=focus_cells ρ (A:=noA) hw hn
  have hs1:=(fit_sz hf1).1
  have hs2:=(fit_sz hf2).1
  have hu:=hwu v hwv (by rw[hs1,hs2])
  have hA:∀y,cells ρ (λ z=>noA ([i]++z)) y=cells ρ noA y:=λ y=>rfl
  have hpl:Pl (upd d [i] v):=by
   cases d<;>simp only[DM.navL] at hn<;>first|(cases hn;done)|skip
   ·intro j hj
    by_cases e:j=i
    ·subst e;rw[fup_same];exact hpv
    ·rw[fup_ne _ _ e];exact hp j hj
   ·intro j hj
    by_cases e:j=i
    ·subst e;rw[fup_same];exact hpv
    ·rw[fup_ne _ _ e];exact hp j hj
  obtain⟨r1,r2,r3,r4,r5,r6⟩:=fill_ok hT hpt (ρ:=ρ) hrest hr hu.1 hpl (λ y hy=>hok y (by simp[hy]))
  have hvl:(cells ρ noA v).length=ti.sz:=by rw[cells_length ρ _ _ hwv,hs1]
  have hol:(cells ρ noA old).length=ti.sz:=by rw[cells_length ρ _ _ hwo,hs2]
  have ho:off=pre.length:=by rw[Nat.eq_of_beq_eq_true hoff,hl]
  refine⟨?_,r2,r3,by rw[r4,hu.2],⟨?_,?_⟩,λ k hk hl=>r6 k (sc_upd (hl (i,v) (by simp)) hk) (λ y hy=>hl y (by simp[hy]))⟩
  ·simp only[List.map_cons,Instr.fill,hpt i t off ti hpt' hti,enc_cells v hwv,List.size_toArray,hvl]
   have hsz:off+ti.sz<=(cells ρ noA d).length:=by
    rw[hcs,ho]
    simp only[List.length_append,hA,hol];omega
   rw[if_neg (by simp;omega)]
   rw[<-r1]
   congr 1
   apply Array.ext'
   rw[<-Array.foldl_toList,Array.toList_zipIdx]
   have:=foldSet (cells ρ noA v) 0 off (cells ρ noA d).toArray (by simp[hvl];omega)
   simp only[] at this ⊢
   rw[this,hcu v,hA v,Nat.add_zero,hvl]
   have hsp:=splice (L:=cells ρ noA d) (pre:=pre) (xs:=cells ρ noA old) (post:=post) (rest:=[]) (ys:=cells ρ noA v) (by rw[hcs,hA,List.append_nil]) (by rw[hvl,hol])
   rw[hvl] at hsp
   rw[ho,hsp,List.append_nil]
  ·intro n s f e
   subst e
   exact r5.1 n s (fup f i (upd (f i) [] v)) rfl
  ·intro n f e
   subst e
   exact r5.2 n (fup f i (upd (f i) [] v)) rfl
theorem parts_ok{n:Nat}{ρ:Rho}{N:Nat}{a:Act}(hf:Frm n ρ N fr a.tmps):∀{l:List (Nat×Operand)},(∀y∈parts fr l,y.2≠.un)->l.map (λ y=>(y.1,a.eval y.2))=(parts fr l).map (λ y=>(y.1,enc ρ y.2))/\∀y∈parts fr l,Sc n y.2/\Ok y.2
 |[],_=>⟨rfl,λ y hy=>by simp[parts] at hy⟩
 |(i,x)::l,h=>by
  have h1:=ev_eq hf (x:=x) rfl (h (i,ev fr x) (by simp[parts]))
  obtain⟨h2,h3⟩:=parts_ok hf (l:=l) (λ y hy=>h y (by simp[parts,hy]))
  refine⟨by simp only[List.map_cons,parts,h1.1,h2],λ y hy=>?_⟩
  simp only[parts,List.mem_cons] at hy
  rcases hy with rfl|hy
  ·exact h1.2
  ·exact h3 y hy
theorem buildE_ne{pt:Nat->Option (TypeId×Nat)}:∀{l:List (Nat×Dat)}{d x:Dat}{ps:List Prop},buildE T pt d l=some (ps,x)->∀y∈l,y.2≠.un
 |[],d,x,ps,_,y,hy=>by simp at hy
 |(i,v)::rest,d,x,ps,h,y,hy=>by
  simp only[buildE] at h
  split at h
  case h_2=>cases h
  split at h
  case h_2=>cases h
  split at h
  case h_2=>cases h
  rw[cond_eq_ite] at h
  split at h
  case isFalse=>cases h
  rename_i hc
  simp only[Bool.and_eq_true] at hc
  split at h
  case h_2=>cases h
  rename_i hrest
  simp only[List.mem_cons] at hy
  rcases hy with rfl|hy
  ·exact ne_un_of_fit hc.1.1
  ·exact buildE_ne hrest y hy
theorem known_get:∀{fs:List (TypeId×Nat)},known T fs=true->∀x∈fs,∃ti,T x.1=some ti
 |[],_,x,hx=>by simp at hx
 |(t,o)::l,h,x,hx=>by
  simp only[known] at h
  split at h
  ·rename_i ti hti
   simp only[List.mem_cons] at hx
   rcases hx with rfl|hx
   ·exact⟨ti,hti⟩
   ·exact known_get h x hx
  ·cases h
def placesOf(T:TyEnv)(fs:List (TypeId×Nat)):List (Nat×Nat):=fs.map λ x=>(x.2,((T x.1).map (·.sz)).getD 0)
theorem placesOf_get{fs:List (TypeId×Nat)}{i:Nat}{t:TypeId}{off:Nat}{ti:TI}(h:fs[i]? =some (t,off))(ht:T t=some ti):(placesOf T fs)[i]? =some (off,ti.sz):=by
 simp[placesOf,h,ht]
theorem places_run(hT:TOK P T)(w:World):∀{l:List Field}{fs:List (TypeId×Nat)},l.map (λ f=>(f.type,f.offset))=fs->known T fs=true->
  (l.mapM λ f=>do pure (f.offset, <-sizeOf f.type):Sem (List (Nat×Nat))).run P w=.ok (placesOf T fs) w
 |[],fs,h,_=>by subst h;simp[placesOf]
 |f::l,fs,h,hk=>by
  subst h
  obtain⟨ti,hti⟩:=known_get hk (f.type,f.offset) (by simp)
  have hk':known T (l.map λ f=>(f.type,f.offset))=true:=by
   simp only[List.map_cons,known,hti] at hk;exact hk
  have h1:=places_run hT w (l:=l) rfl hk'
  simp only[List.mapM_cons,Sem.run_bind,sizeOf_run (hT _ _ hti),Sem.run_pure,Result.andThen_ok,h1]
  simp[placesOf,hti]
theorem ok_build(hT:TOK P T){o:Oper}{t:TypeId}{qs:Array (Nat×Operand)}(ho:o.op=.build t qs)(h:evalOp T wm (.build t qs) fr m=some (ps,v,m'))(hp:AllP ps):m'=m/\QOK P o fr m v m:=by
 simp only[evalOp,fP_eq] at h
 have key:∀{i:TI}{pt:Nat->Option (TypeId×Nat)}{place:Nat->Option (Nat×Nat)}{x:Dat},T t=some i->i.ty.agg=true->buildE T pt i.z (parts fr qs.toList)=some (ps,x)->(∀i t off ti,pt i=some (t,off)->T t=some ti->place i=some (off,ti.sz))->
   (∀(ρ:Rho) (w:World) (cs:List (Nat×Value)) (c:Array Value),Instr.fill place (cells ρ noA i.z).toArray cs=some c->(Instr.build t cs.toArray).run P w=.ok (.agg c) w)->QOK P o fr m x m:=by
  intro i pt place x hi hag hb hpt hrun
  have hk:=hT t i hi
  refine .of_run λ N ρ a w hf hr=>?_
  obtain⟨h1,h2⟩:=parts_ok hf (l:=qs.toList) (buildE_ne hb)
  obtain⟨r1,r2,r3,r4,r5,r6⟩:=fill_ok hT hpt (ρ:=ρ) hb hp hk.wf hk.pl (λ y hy=>(h2 y hy).2)
  have hx:enc ρ x=.agg (cells ρ noA x).toArray:=by
   have hz:(∃n s f,i.z=.ar n s f)\/(∃n f,i.z=.st n f):=by
    exact(fit_sz hk.fitz).2.2 hag
   rcases hz with⟨n,s,f,e⟩|⟨n,f,e⟩
   ·obtain⟨f',rfl⟩:=r5.1 n s f e;rfl
   ·obtain⟨f',rfl⟩:=r5.2 n f e;rfl
  refine⟨?_,r6 _ (hk.sc.mono (Nat.zero_le _)) (λ y hy=>(h2 y hy).1),ok_of r2 r3⟩
  have e1:(qs.map λ(i,x)=>(i,a.eval x))=((parts fr qs.toList).map λ y=>(y.1,enc ρ y.2)).toArray:=by
   apply Array.ext'
   rw[Array.toList_map, <-h1]
  rw[hx]
  simp only[execOp,ho,Sem.run_bind,e1]
  rw[hrun ρ w _ _ r1]
  simp
 split at h
 ·rename_i fs a b z hi
  rw[cond_eq_ite] at h
  split at h
  case isFalse=>cases h
  rename_i hkn
  split at h
  case h_2=>cases h
  rename_i qs' x hb
  simp only[Option.some.injEq,Prod.mk.injEq] at h
  obtain⟨rfl,rfl,rfl⟩:=h
  obtain⟨fields,hu,hfs⟩:=(hT t _ hi).fits
  have hz:=zeroValue_run (hT t _ hi)
  refine⟨rfl,?_⟩
  refine key hi rfl hb (place:=((placesOf T fs).toArray[·]?)) (λ i t off ti h3 h4=>by simpa using placesOf_get h3 h4) ?_
  intro ρ w cs c hc
  have hk:=hT t _ hi
  have hzz:(enc noR z).cells=(cells ρ noA z).toArray:=by rw[enc_noR hk.sc ρ];exact enc_cells z hk.wf
  have hpl:=places_run hT w hfs hkn
  cases fields with
  |mk l=>
   unfold Instr.build
   simp only[Sem.run_bind,hz w,Result.andThen_ok,run_underlying hu w,hzz,List.mapM_toArray]
   simp only[Sem.run_map,hpl,Result.andThen_ok,hc]
   simp
 ·rename_i n e a b z hi
  split at h
  case h_2=>cases h
  rename_i ie he
  split at h
  case h_2=>cases h
  rename_i qs' x hb
  simp only[Option.some.injEq,Prod.mk.injEq] at h
  obtain⟨rfl,rfl,rfl⟩:=h
  have hu:=(hT t _ hi).fits
  simp only[Ty.fits] at hu
  have hz:=zeroValue_run (hT t _ hi)
  refine⟨rfl,?_⟩
  refine key hi rfl hb (place:=λ i=>some (i*ie.sz,ie.sz)) (λ i t off ti h3 h4=>by simp only[Option.some.injEq,Prod.mk.injEq] at h3;obtain⟨rfl,rfl⟩:=h3;rw[he] at h4;cases h4;rfl) ?_
  intro ρ w cs c hc
  unfold Instr.build
  simp only[Sem.run_bind,hz w,Result.andThen_ok,run_underlying hu w,sizeOf_run (hT e ie he) w]
  have hk:=hT t _ hi
  have hzz:(enc noR z).cells=(cells ρ noA z).toArray:=by rw[enc_noR hk.sc ρ];exact enc_cells z hk.wf
  simp only[hzz,hc]
  simp
 ·cases h
end
end Go.Proofs.YthjnmlpibafbnaaGreat.DM
