import Derived.Test.YthjnmlpibafbnaaGreatD12
namespace Go.Proofs.YthjnmlpibafbnaaGreat.DM
open Go.RowKit
set_option linter.unusedSimpArgs false
def noMine:List Root->Bool
 |[]=>true
 |R::l=>bif R.mine then false else noMine l
theorem noMine_get:∀{l:List Root},noMine l=true->∀{j:Nat}{R:Root},l[j]? =some R->R.mine=false
 |[],_,j,R,h=>by simp at h
 |X::l,hn,j,R,h=>by
  simp only[noMine] at hn
  cases hx:X.mine with
  |true=>rw[hx] at hn;cases hn
  |false=>
   rw[hx] at hn
   cases j with
   |zero=>simp only[List.getElem?_cons_zero,Option.some.injEq] at h;subst h;exact hx
   |succ j=>exact noMine_get hn (by simpa using h)
def tauOf(ts:List Nat)(j:Nat):Nat:=bif Nat.blt j ts.length then pickT ts j else j
theorem tauOf_lt{ts:List Nat}{j:Nat}(h:j<ts.length):tauOf ts j=pickT ts j:=by
 unfold tauOf;rw[show Nat.blt j ts.length=true from by rw[Nat.blt_eq];exact h];rfl
theorem Taken.view{m m0:List Root}(ts:List Nat)(h:LeAll 0 m ts m0)(hd:(noMine m0||distinct ts)=true):Taken (tauOf ts) 0 m m0:=by
 obtain⟨g1,g2⟩:=h.get
 have hlt:∀{j:Nat}{R:Root},m0[j]? =some R->j<ts.length:=λ h=>by rw[g1];exact(List.getElem?_eq_some_iff.1 h).1
 refine⟨λ j R hj=>.inr ?_,λ i j R R' hi hj hm _ e=>?_,λ r hr=>by omega,Nat.zero_le _⟩
 ·rw[tauOf_lt (hlt hj)];exact g2 hj
 ·rw[tauOf_lt (hlt hi),tauOf_lt (hlt hj)] at e
  simp only[Bool.or_eq_true] at hd
  rcases hd with hd|hd
  ·rw[noMine_get hd hi] at hm;cases hm
  ·exact distinct_inj hd (hlt hi) (hlt hj) e
def ArgsR(τ:Nat->Nat)(fr:Nat->Dat):List Dat->List Operand->Prop
 |[],[]=>True
 |x::xs,y::ys=>(renD τ x (ev fr y)/\ev fr y≠.un)/\ArgsR τ fr xs ys
 |_,_=>False
def notUn:Dat->Bool
 | .un=>false
 |_=>true
theorem ArgsR.cons{τ:Nat->Nat}{fr:Nat->Dat}{x:Dat}{xs:List Dat}{y:Operand}{ys:List Operand}(h1:renD τ x (ev fr y))(h2:notUn (ev fr y)=true)(h3:ArgsR τ fr xs ys):ArgsR τ fr (x::xs) (y::ys):=
 ⟨⟨h1,λ e=>by rw[e] at h2;cases h2⟩,h3⟩
theorem ArgsR.eval{n:Nat}{ρ:Rho}{N:Nat}{fr:Nat->Dat}{a:Act}(hf:Frm n ρ N fr a.tmps){τ:Nat->Nat}:∀{xs:List Dat}{ys:List Operand},ArgsR τ fr xs ys->ys.map a.eval=xs.map (enc λ r=>ρ (τ r))/\∀x∈xs,Ok x
 |[],[],_=>⟨rfl,λ x hx=>by simp at hx⟩
 |[],_::_,h=>h.elim
 |_::_,[],h=>h.elim
 |x::xs,y::ys,⟨⟨h1,h2⟩,h3⟩=>by
  obtain⟨e1,_,e3⟩:=ev_eq hf (x:=y) rfl h2
  obtain⟨g1,g2⟩:=ArgsR.eval hf h3
  refine⟨by simp only[List.map_cons,e1,g1,renD_enc h1],λ z hz=>?_⟩
  simp only[List.mem_cons] at hz
  rcases hz with rfl|hz
  ·exact renD_ok h1 e3
  ·exact g2 z hz
def FnR(P:Program)(f:FuncId)(xs:List Dat)(m0:List Root)(r:Dat):Prop:=FnS P f xs m0 λ r' _=>r'=r/\Sc 0 r
section
variable {P:Program}{N K:Nat}{Q Q':Exit->St->Prop}{fr:Nat->Dat}{m m0:List Root}{f:FuncId}{xs:List Dat}{r:Dat}
theorem FnR.calls(h:FnR P f xs m0 r)(hn:noMine m0=true){ρ:Rho}{w:World}(hr:Rep ρ m0 w)(hx:∀x∈xs,Sc m0.length x/\Ok x)(ρ2:Rho):
  Calls P f (xs.map (enc ρ)).toArray w λ e w'=>e=.returned (enc ρ2 r)/\Sc 0 r/\Ok r/\BelowD w.heap.size w w':=by
 refine(FnS.calls h ρ w hr hx).mono ?_
 rintro e w' ⟨r',ρ',m',rfl,h2,h3,h4,h5,rfl,h6⟩
 refine⟨?_,h6,h3,h5.below (λ j R hj=>noMine_get hn hj)⟩
 rw[enc_congr (n:=0) (ρ:=ρ2) (ρ':=ρ') (λ _ h=>absurd h (Nat.not_lt_zero _)) r' h6]
theorem WPL.callR{ops:Array Oper}{dst:Tmp}{args:List Operand}{tys:Array TypeId}{t:TypeId}{pos:String}{after:Array Edge}{gg:Option (Nat×Bool)}{rest:List Oper}(ts:List Nat)(h:FnR P f xs m0 r)(hn:noMine m0=true)
  (hl:LeAll 0 m ts m0) (hx:ArgsR (tauOf ts) fr xs args) (hg:gd ops { dst:=some dst,op:=.call { callee:=.value (.func f),args:=args.toArray,argTypes:=tys },type:=t,pos:=pos,after:=after,guard:=gg } fr=some true) (hd:Nat.blt dst N=true) (hsc:∀x∈xs,Sc m0.length x)
  (k:WPL P N K ops Q rest ⟨fup fr dst r,m⟩):
  WPL P N K ops Q ({ dst:=some dst,op:=.call { callee:=.value (.func f),args:=args.toArray,argTypes:=tys },type:=t,pos:=pos,after:=after,guard:=gg }::rest) ⟨fr,m⟩:=by
 intro ρ a w ⟨hfr,hdf,hr,hK⟩
 refine wpList_step λ Kc hKc=>?_
 rw[if_pos (gd_wanted hg hfr)]
 obtain⟨h1,h2⟩:=hx.eval hfr
 have h0:a.eval (.func f)=.func (.func f) #[] #[]:=rfl
 unfold Oper.wp
 rw[call_run rfl h0 (FnS.enter h)]
 simp only[Oper.upon]
 rw[show args.toArray.map a.eval=(xs.map (enc λ r=>ρ (tauOf ts r))).toArray by rw[<-h1];simp]
 refine(h.calls hn (hr.taken (Taken.view ts hl (by rw[hn];rfl))) (λ x hx=>⟨hsc x hx,h2 x hx⟩) ρ).mono ?_
 rintro e w' ⟨rfl,h3,h4,h5⟩
 refine hKc _ _ ?_
 have htr:=Tr.of_below (ρ:=ρ) (m:=m) h5
 refine wpList_mono (λ e a w q=>Real.tr (s:=⟨fr,m⟩) (s1:=⟨fup fr dst r,m⟩) (htr.toK hK) q) _ _ _ ?_
 exact k ρ _ w' ⟨hfr.putO (dst:=some dst) hd (.inr ⟨rfl,h3.mono (Nat.zero_le _),h4⟩),by rw[put_defers];exact hdf,hr.below h5,hK⟩
theorem WQ.callR{ops:Array Oper}{Kp:St->Prop}{dst:Tmp}{args:List Operand}{tys:Array TypeId}{t:TypeId}{pos:String}{after:Array Edge}{gg:Option (Nat×Bool)}{rest:List Oper}(ts:List Nat)(h:FnR P f xs m0 r)(hn:noMine m0=true)
  (hl:LeAll 0 m ts m0) (hx:ArgsR (tauOf ts) fr xs args) (hg:gd ops { dst:=some dst,op:=.call { callee:=.value (.func f),args:=args.toArray,argTypes:=tys },type:=t,pos:=pos,after:=after,guard:=gg } fr=some true) (hd:Nat.blt dst N=true) (hsc:∀x∈xs,Sc m0.length x)
  (hok:Sc 0 r/\Ok r) (k:WQ P N ops Kp rest ⟨fup fr dst r,m⟩):
  WQ P N ops Kp ({ dst:=some dst,op:=.call { callee:=.value (.func f),args:=args.toArray,argTypes:=tys },type:=t,pos:=pos,after:=after,guard:=gg }::rest) ⟨fr,m⟩:=by
 intro ρ a C hfr hdf hC hne
 obtain⟨h1,h2⟩:=hx.eval hfr
 have h0:a.eval (.func f)=.func (.func f) #[] #[]:=rfl
 unfold wpQuiet
 rw[if_pos (gd_wanted hg hfr)]
 refine⟨enc ρ r,λ w hw=>?_,?_⟩
 ·unfold Oper.quietAt
  rw[call_run rfl h0 (FnS.enter h)]
  refine⟨rfl,?_⟩
  rw[show args.toArray.map a.eval=(xs.map (enc λ r=>ρ (tauOf ts r))).toArray by rw[<-h1];simp]
  refine(h.calls hn ((hC.rep w hw).taken (Taken.view ts hl (by rw[hn];rfl))) (λ x hx=>⟨hsc x hx,h2 x hx⟩) ρ).mono ?_
  rintro e w' ⟨rfl,h3,h4,h5⟩
  exact⟨rfl,hC.below _ _ hw h5⟩
 ·exact k ρ _ C (hfr.putO (dst:=some dst) hd (.inr ⟨rfl,hok.1.mono (Nat.zero_le _),hok.2⟩)) (by rw[put_defers];exact hdf) hC hne
def invT(ts:List Nat)(n j:Nat):Nat:=bif Nat.blt j ts.length then pickT ts j else n+(j-ts.length)
def srcT(ts:List Nat)(m0:List Root)(r j:Nat):Option Nat:=match ts,m0 with
 |t::ts,R::m0=>bif R.mine&&Nat.beq t r then some j else srcT ts m0 r (j+1)
 |_,_=>none
def putBack(m:List Root)(ts:List Nat)(m0 m1:List Root):List Root:=match ts,m0,m1 with
 |t::ts,R0::m0,R1::m1=>putBack (bif R0.mine then m.set t R1 else m) ts m0 m1
 |_,_,m1=>m++m1
def sameKind(m:List Root):List Nat->List Root->Bool
 |t::ts,R::m0=>(match m[t]? with
  |some R0=>R.mine||!R0.mine
  |none=>false)&&sameKind m ts m0
 |_,_=>true
theorem sameKind_get:∀{ts:List Nat}{m0:List Root},sameKind m ts m0=true->ts.length=m0.length->∀{j:Nat}{R0 R:Root},m[pickT ts j]? =some R0->m0[j]? =some R->R0.mine=true->R.mine=true
 |[],[],_,_,j,R0,R,_,h,_=>by simp at h
 |[],_::_,_,hl,j,R0,R,_,h,_=>by simp at hl
 |_::_,[],_,hl,j,R0,R,_,h,_=>by simp at hl
 |t::ts,X::m0,hs,hl,j,R0,R,h0,h,hm=>by
  simp only[sameKind,Bool.and_eq_true] at hs
  cases j with
  |zero=>
   simp only[List.getElem?_cons_zero,Option.some.injEq,pickT] at h h0
   subst h
   rw[h0] at hs
   simp only[Bool.or_eq_true,Bool.not_eq_true'] at hs
   rcases hs.1 with h|h
   ·exact h
   ·rw[hm] at h;cases h
  |succ j=>exact sameKind_get hs.2 (by simpa using hl) (by simpa[pickT] using h0) (by simpa using h) hm
theorem srcT_some:∀{ts:List Nat}{m0:List Root}{r j i:Nat},srcT ts m0 r j=some i->j<=i/\i-j<ts.length/\pickT ts (i-j)=r/\∃R,m0[i-j]? =some R/\R.mine=true
 |[],m0,r,j,i,h=>by simp[srcT] at h
 |_::_,[],r,j,i,h=>by simp[srcT] at h
 |t::ts,R::m0,r,j,i,h=>by
  simp only[srcT] at h
  rw[cond_eq_ite] at h
  split at h
  ·rename_i hc
   simp only[Bool.and_eq_true] at hc
   simp only[Option.some.injEq] at h
   subst h
   refine⟨Nat.le_refl _,by simp,?_,R,by simp,hc.1⟩
   simp only[Nat.sub_self,pickT]
   exact Nat.eq_of_beq_eq_true hc.2
  ·obtain⟨h1,h2,h3,R',h4,h5⟩:=srcT_some h
   have e:i-j=(i-(j+1))+1:=by omega
   refine⟨by omega,by simp;omega,by rw[e];exact h3,R',by rw[e];simpa using h4,h5⟩
theorem srcT_none:∀{ts:List Nat}{m0:List Root}{r j:Nat},srcT ts m0 r j=none->ts.length=m0.length->∀{i:Nat}{R:Root},m0[i]? =some R->R.mine=true->pickT ts i≠r
 |[],[],r,j,_,_,i,R,h,_=>by simp at h
 |[],_::_,r,j,_,hl,i,R,h,_=>by simp at hl
 |_::_,[],r,j,_,hl,i,R,h,_=>by simp at hl
 |t::ts,X::m0,r,j,h,hl,i,R,hi,hm=>by
  simp only[srcT] at h
  rw[cond_eq_ite] at h
  split at h
  ·cases h
  ·rename_i hc
   cases i with
   |zero=>
    simp only[List.getElem?_cons_zero,Option.some.injEq] at hi
    subst hi
    intro e
    apply hc
    simp only[pickT] at e
    subst e
    simp[hm]
   |succ i=>exact srcT_none h (by simpa using hl) (by simpa using hi) hm
theorem putBack_get:∀{ts:List Nat}{m0 m1 m:List Root},ts.length=m0.length->m0.length<=m1.length->(∀t∈ts,t<m.length)->distinct ts=true->
  (putBack m ts m0 m1).length=m.length+(m1.length-m0.length)/\
  ∀r,r<m.length+(m1.length-m0.length)->(putBack m ts m0 m1)[r]? =(if r<m.length then(match srcT ts m0 r 0 with
   |some j=>m1[j]?
   |none=>m[r]?) else m1[r-m.length+m0.length]?)
 |[],[],m1,m,_,_,_,_=>by
  refine⟨by simp[putBack],λ r hr=>?_⟩
  simp only[putBack,srcT]
  rw[List.getElem?_append]
  split<;>simp
 |[],_::_,_,_,h,_,_,_=>by simp at h
 |_::_,[],_,_,h,_,_,_=>by simp at h
 |t::ts,R0::m0,[],m,_,h,_,_=>by simp at h
 |t::ts,R0::m0,R1::m1,m,hl,hl1,ht,hd=>by
  simp only[distinct] at hd
  cases hmem:memN ts t with
  |true=>rw[hmem] at hd;cases hd
  |false=>
   rw[hmem] at hd
   have hnt:t∉ts:=λ h=>by rw[memN_iff.2 h] at hmem;cases hmem
   let m':List Root:=bif R0.mine then m.set t R1 else m
   have hm':m'.length=m.length:=by simp only[m'];cases R0.mine<;>simp
   obtain⟨g1,g2⟩:=putBack_get (ts:=ts) (m0:=m0) (m1:=m1) (m:=m') (by simpa using hl) (by simpa using hl1) (λ x hx=>by rw[hm'];exact ht x (by simp[hx])) hd
   have shift:∀(ts:List Nat) (m0:List Root) (r j:Nat),srcT ts m0 r (j+1)=(srcT ts m0 r j).map (·+1):=by
    intro ts
    induction ts with
    |nil=>intro m0 r j;simp[srcT]
    |cons t ts ih=>
     intro m0 r j
     cases m0 with
     |nil=>simp[srcT]
     |cons R m0=>
      simp only[srcT]
      cases (R.mine&&Nat.beq t r) with
      |true=>rfl
      |false=>exact ih m0 r (j+1)
   refine⟨by simp only[putBack];rw[show putBack (bif R0.mine then m.set t R1 else m) ts m0 m1=putBack m' ts m0 m1 from rfl,g1,hm'];simp,λ r hr=>?_⟩
   simp only[putBack]
   rw[show putBack (bif R0.mine then m.set t R1 else m) ts m0 m1=putBack m' ts m0 m1 from rfl,g2 r (by rw[hm'];simpa using hr),hm']
   by_cases hrm:r<m.length
   ·rw[if_pos hrm,if_pos hrm]
    simp only[srcT]
    cases hc:(R0.mine&&Nat.beq t r) with
    |true=>
     simp only[Bool.and_eq_true] at hc
     have e:=Nat.eq_of_beq_eq_true hc.2
     subst e
     have hs:srcT ts m0 t 0=none:=by
      cases hs:srcT ts m0 t 0 with
      |none=>rfl
      |some i=>
       obtain⟨_,h2,h3,_⟩:=srcT_some hs
       exact absurd (List.mem_of_getElem? (by rw[<-h3];exact pickT_get h2)) hnt
     simp only[hs,cond_true,List.getElem?_cons_zero,m',hc.1]
     exact List.getElem?_set_self hrm
    |false=>
     simp only[cond_false]
     rw[shift ts m0 r 0]
     cases hs:srcT ts m0 r 0 with
     |some i=>simp
     |none=>
      simp only[Option.map_none,m']
      cases hm0:R0.mine with
      |false=>rfl
      |true=>
       rw[hm0] at hc
       have:t≠r:=λ e=>by subst e;simp at hc
       simp only[cond_true]
       rw[List.getElem?_set_ne this]
   ·rw[if_neg hrm,if_neg hrm]
    rw[show r-m.length+(R0::m0).length=(r-m.length+m0.length)+1 by simp;omega,List.getElem?_cons_succ]
def OwnNew(n:Nat)(m1:List Root):Prop:=∀(j:Nat) (R:Root) (q:List Nat),m1[j]? =some R->n<=j->At R q->R.mine=true/\AtO R q
theorem ownNew_row{R0:Root}{e:TypeId}{n s:Nat}{f:Nat->Dat}(hp:∀i,i<n->Pl (f i)):OwnNew 1 [R0,.row e n s f]:=by
 intro j R q hj h1 ha
 match j,hj with
 |0,_=>omega
 |1,hj=>
  simp only[List.getElem?_cons_succ,List.getElem?_cons_zero,Option.some.injEq] at hj
  subst hj
  refine⟨rfl,?_⟩
  rcases ha with h|⟨d,e',n',s',f',h2,h3⟩
  ·exact .inl h
  ·cases h2
   cases q with
   |nil=>exact .inl ⟨rfl,rfl⟩
   |cons i q=>
    simp only[nav] at h3
    split at h3
    ·rename_i hi;exact absurd h3 (Pl_nav (hp i hi))
    ·cases h3
 |j+2,hj=>simp at hj
theorem Rep.call{ρ:Rho}{w:World}(h:Rep ρ m w)(ts:List Nat){m1:List Root}(hle:LeAll 0 m ts m0)(hkind0:sameKind m ts m0=true\/(noMine m0=true/\OwnNew m0.length m1))(hd:distinct ts=true){ρ1:Rho}{w1:World}(h1:Rep ρ1 m1 w1)(htr:Tr (λ j=>ρ (tauOf ts j)) m0 w ρ1 m1 w1)
  (hs:∀(j:Nat) (R:Root) (d:Dat),m1[j]? =some R->R.con=some d->Sc 0 d):
  let ρ2:Rho:=λ r=>if r<m.length then(match srcT ts m0 r 0 with
   |some j=>ρ1 j
   |none=>ρ r) else ρ1 (r-m.length+m0.length)
  Rep ρ2 (putBack m ts m0 m1) w1/\Tr ρ m w ρ2 (putBack m ts m0 m1) w1/\∀j,j<m1.length->ρ2 (invT ts m.length j) []=ρ1 j []:=by
 intro ρ2
 obtain⟨hll,hget⟩:=hle.get
 have htl:∀t∈ts,t<m.length:=by
  intro t ht
  obtain⟨j,hj,e⟩:=List.mem_iff_getElem.1 ht
  have hj0:j<m0.length:=by omega
  obtain⟨R0,g1,_⟩:=hget (List.getElem?_eq_getElem hj0)
  have:=pickT_get hj
  rw[List.getElem?_eq_getElem hj,e] at this
  rw[<-Option.some.inj this] at g1
  exact(List.getElem?_eq_some_iff.1 g1).1
 obtain⟨hpl,hpb⟩:=putBack_get hll htr.len htl hd
 --where a root comes from
 have from_:∀{r:Nat}{R:Root},(putBack m ts m0 m1)[r]? =some R->(∃j,m1[j]? =some R/\ρ2 r=ρ1 j/\((j<m0.length/\r=pickT ts j/\r<m.length/\∃R0,m0[j]? =some R0/\R0.mine=true)\/(m0.length<=j/\r=m.length+(j-m0.length))))\/
   (r<m.length/\m[r]? =some R/\ρ2 r=ρ r/\∀{i:Nat}{R0:Root},m0[i]? =some R0->R0.mine=true->pickT ts i≠r):=by
  intro r R hr
  have hlt:r<m.length+(m1.length-m0.length):=by rw[<-hpl];exact(List.getElem?_eq_some_iff.1 hr).1
  rw[hpb r hlt] at hr
  by_cases hrm:r<m.length
  ·rw[if_pos hrm] at hr
   cases hsrc:srcT ts m0 r 0 with
   |some j=>
    rw[hsrc] at hr
    obtain⟨_,g2,g3,R0,g4,g5⟩:=srcT_some hsrc
    refine .inl ⟨j,hr,?_,.inl ⟨by rw[<-hll];simpa using g2,by simpa using g3.symm,hrm,R0,by simpa using g4,g5⟩⟩
    simp only[ρ2,if_pos hrm,hsrc]
   |none=>
    rw[hsrc] at hr
    refine .inr ⟨hrm,hr,?_,λ{i R0} h1 h2=>srcT_none hsrc hll h1 h2⟩
    simp only[ρ2,if_pos hrm,hsrc]
  ·rw[if_neg hrm] at hr
   refine .inl ⟨_,hr,?_,.inr ⟨by omega,by omega⟩⟩
   simp only[ρ2,if_neg hrm]
 have agree:∀r,r<m.length->ρ2 r []=ρ r []:=by
  intro r hr
  simp only[ρ2,if_pos hr]
  cases hsrc:srcT ts m0 r 0 with
  |none=>rfl
  |some j=>
   obtain⟨_,g2,g3,_⟩:=srcT_some hsrc
   have hj:j<m0.length:=by rw[<-hll];simpa using g2
   have:=htr.agree j hj
   simp only[Nat.sub_zero] at g2 g3
   rw[tauOf_lt g2,g3] at this
   exact this
 --a place of the callee's at the beginning is one of the caller's
 have up:∀{j:Nat}{R0:Root},m0[j]? =some R0->j<ts.length/\∃R,m[pickT ts j]? =some R/\R.Le R0:=by
  intro j R0 hj
  obtain⟨R,g1,g2,_⟩:=hget hj
  exact⟨by rw[hll];exact(List.getElem?_eq_some_iff.1 hj).1,R,g1,g2⟩
 --the blocks of what is not handed on as one's own stay
 have keep:∀{r:Nat}{R:Root}{q:List Nat},m[r]? =some R->At R q->(ρ r q).nil=false->(∀{i:Nat}{R0:Root},m0[i]? =some R0->R0.mine=true->pickT ts i≠r)->(ρ r q).b<w.heap.size/\w1.heap[(ρ r q).b]? =w.heap[(ρ r q).b]? :=by
  intro r R q hr ha hz hfree
  have hlt:=h.at_lt hr ha hz
  refine⟨hlt,htr.keep _ hlt λ j R0 q0 hj hm hao e=>?_⟩
  obtain⟨hjl,X,g1,g2⟩:=up hj
  simp only[tauOf_lt hjl] at e
  exact h.sep _ X q0 r R q g1 hr (g2.mine hm) (g2.atO hao) ha hz (λ e2=>absurd e2 (hfree hj hm)) e
 have hlen:m.length<=(putBack m ts m0 m1).length:=by rw[hpl];omega
 have hρ0:∀r,r<0->ρ2 r []=ρ1 r []:=λ r hr=>by omega
 refine⟨⟨λ r d hr=>?_,λ r R d q e n s f hr h2 h3 h4 h5=>?_,λ r R d q e n s f hr h2 h3 h4=>?_,λ r R q r' R' q' hr hr' h3 h4 h5 h6 h7=>?_,λ r R d hr h2=>?_,λ r b l hr=>by
  rcases from_ hr with⟨j,g1,g2,_⟩|⟨g0,g1,g2,g3⟩
  ·rw[g2];exact h1.mp j b l g1
  ·rw[g2];exact(h.mp r b l g1).keep (keep g1 (.inl ⟨rfl,rfl⟩) (h.mp r b l g1).2.1 g3).2⟩,⟨htr.os,htr.tape,htr.drawn,htr.output,htr.size,agree,hlen,λ b hb hfree=>?_,λ r R q hr hm ha=>?_,λ r R q hr ha hz=>?_⟩,λ j hj=>?_⟩
 ·rcases from_ hr with⟨j,g1,g2,_⟩|⟨g0,g1,g2,g3⟩
  ·rw[g2];exact(h1.var j d g1).rho (n:=0) hρ0 (hs j _ d g1 rfl)
  ·rw[g2]
   exact((h.var r d g1).keep (keep g1 (.inl ⟨rfl,rfl⟩) (h.mine_nil g1 rfl (.inl ⟨rfl,rfl⟩)) g3).2).rho (n:=m.length) agree (h.wf r _ d g1 rfl).2
 ·rcases from_ hr with⟨j,g1,g2,_⟩|⟨g0,g1,g2,g3⟩
  ·rw[g2];exact(h1.row j R d q e n s f g1 h2 h3 h4 h5).rho (n:=0) hρ0 (show Sc 0 (.ow e n s f) from sc_nav h4 (hs j R d g1 h3))
  ·rw[g2]
   have hx:=h.row r R d q e n s f g1 h2 h3 h4 h5
   have hz:(ρ r q).nil=false:=by
    obtain⟨_,_,_,hz,_⟩:=hx
    exact hz
   exact(hx.keep (keep g1 (.inr ⟨d,e,n,s,f,h3,h4⟩) hz g3).2).rho (n:=m.length) agree (show Sc m.length (.ow e n s f) from sc_nav h4 (h.wf r R d g1 h3).2)
 ·rcases from_ hr with⟨j,g1,g2,_⟩|⟨g0,g1,g2,g3⟩
  ·rw[g2];exact(h1.ro j R d q e n s f g1 h2 h3 h4).rho (n:=0) hρ0 (show Sc 0 (.ow e n s f) from sc_nav h4 (hs j R d g1 h3))
  ·rw[g2]
   have hx:=h.ro r R d q e n s f g1 h2 h3 h4
   exact(hx.keep htr.size (λ hz=>(keep g1 (.inr ⟨d,e,n,s,f,h3,h4⟩) hz g3).2)).rho (n:=m.length) agree (show Sc m.length (.ow e n s f) from sc_nav h4 (h.wf r R d g1 h3).2)
 ·rcases from_ hr with⟨j,g1,g2,g3⟩|⟨g0,g1,g2,g3⟩
  ·rcases from_ hr' with⟨j',k1,k2,k3⟩|⟨k0,k1,k2,k3⟩
   ·rw[k2] at h6
    rw[g2,k2]
    refine h1.sep j R q j' R' q' g1 k1 h3 h4 h5 h6 (λ e=>h7 ?_)
    subst e
    rcases g3 with⟨a1,a2,_⟩|⟨a1,a2⟩<;>rcases k3 with⟨b1,b2,_⟩|⟨b1,b2⟩<;>omega
   ·rw[k2] at h6
    rw[g2,k2]
    have hk:=(keep k1 h5 h6 k3).1
    rcases htr.foot j R q g1 h3 h4 with hx|⟨j0,R0,q0,a1,a2,a3,a4⟩
    ·omega
    ·obtain⟨hjl,X,f1,f2⟩:=up a1
     rw[<-a4]
     simp only[tauOf_lt hjl]
     exact h.sep _ X q0 r' R' q' f1 k1 (f2.mine a2) (f2.atO a3) h5 h6 (λ e=>absurd e (k3 a1 a2))
  ·rcases from_ hr' with⟨j',k1,k2,k3⟩|⟨k0,k1,k2,k3⟩
   ·rw[k2] at h6
    rw[g2,k2]
    have hz:=h.mine_nil g1 h3 h4
    have hlt:=h.at_lt g1 h4.at hz
    rcases hkind0 with hkind|⟨hnm,hown⟩
    case inr=>
     have hjl:m0.length<=j':=by
      rcases k3 with⟨_,_,_,R9,b1,b2⟩|⟨b1,_⟩
      ·rw[noMine_get hnm b1] at b2;cases b2
      ·exact b1
     obtain⟨e1,e2⟩:=hown j' R' q' k1 hjl h5
     rcases htr.foot j' R' q' k1 e1 e2 with hx|⟨j0,R0,q0,a1,a2,_,_⟩
     ·omega
     ·rw[noMine_get hnm a1] at a2;cases a2
    rcases htr.foot2 j' R' q' k1 h5 h6 with hx|⟨j0,R0,q0,a1,a2,a3,a4⟩
    ·omega
    ·obtain⟨hjl,X,f1,f2⟩:=up a1
     rw[<-a4]
     simp only[tauOf_lt hjl] at a3 ⊢
     refine h.sep r R q _ X q0 g1 f1 h3 h4 (f2.at a2) a3 (λ e=>?_)
     subst e
     rw[g1] at f1
     cases f1
     exact absurd rfl (g3 a1 (sameKind_get hkind hll g1 a1 h3))
   ·rw[k2] at h6
    rw[g2,k2]
    exact h.sep r R q r' R' q' g1 k1 h3 h4 h5 h6 h7
 ·rcases from_ hr with⟨j,g1,g2,_⟩|⟨g0,g1,g2,g3⟩
  ·exact⟨(h1.wf j R d g1 h2).1,(hs j R d g1 h2).mono (Nat.zero_le _)⟩
  ·exact⟨(h.wf r R d g1 h2).1,(h.wf r R d g1 h2).2.mono hlen⟩
 ·refine htr.keep b hb λ j R0 q0 hj hm hao=>?_
  obtain⟨hjl,X,f1,f2⟩:=up hj
  simp only[tauOf_lt hjl]
  exact hfree _ X q0 f1 (f2.mine hm) (f2.atO hao)
 ·rcases from_ hr with⟨j,g1,g2,_⟩|⟨g0,g1,g2,g3⟩
  ·rw[g2]
   rcases htr.foot j R q g1 hm ha with hx|⟨j0,R0,q0,a1,a2,a3,a4⟩
   ·exact .inl hx
   ·obtain⟨hjl,X,f1,f2⟩:=up a1
    simp only[tauOf_lt hjl] at a4
    exact .inr ⟨_,X,q0,f1,f2.mine a2,f2.atO a3,a4⟩
  ·rw[g2];exact .inr ⟨r,R,q,g1,hm,ha,rfl⟩
 ·rcases from_ hr with⟨j,g1,g2,_⟩|⟨g0,g1,g2,g3⟩
  ·rw[g2] at hz ⊢
   rcases htr.foot2 j R q g1 ha hz with hx|⟨j0,R0,q0,a1,a2,a3,a4⟩
   ·exact .inl hx
   ·obtain⟨hjl,X,f1,f2⟩:=up a1
    simp only[tauOf_lt hjl] at a3 a4
    exact .inr ⟨_,X,q0,f1,f2.at a2,a3,a4⟩
  ·rw[g2] at hz ⊢;exact .inr ⟨r,R,q,g1,ha,hz,rfl⟩
 ·unfold invT
  by_cases hjt:j<ts.length
  ·rw[show Nat.blt j ts.length=true from by rw[Nat.blt_eq];exact hjt]
   simp only[cond_true]
   have hj0:j<m0.length:=by omega
   have hp:pickT ts j<m.length:=htl _ (List.mem_of_getElem? (pickT_get hjt))
   rw[agree _ hp]
   have:=htr.agree j hj0
   simp only[tauOf_lt hjt] at this
   exact this.symm
  ·rw[show Nat.blt j ts.length=false from by cases e:Nat.blt j ts.length with|false=>rfl|true=>rw[Nat.blt_eq] at e;exact absurd e hjt]
   simp only[cond_false,ρ2]
   rw[if_neg (by omega),show m.length+(j-ts.length)-m.length+m0.length=j by omega]
theorem renD_ok'{τ:Nat->Nat}:∀{d' d:Dat},renD τ d' d->Ok d'->Ok d:=by
 intro d'
 induction d'<;>intro d h ho<;>simp only[renD] at h
 case p=>subst h;exact⟨trivial,trivial⟩
 case sl=>subst h;exact⟨trivial,trivial⟩
 case tup n f ih=>
  obtain⟨f',rfl,h⟩:=h
  exact λ i hi=>ih i (h i hi) (ho i hi)
 all_goals (obtain⟨rfl,h⟩:=h;exact ho)
def AllC0:List Root->Prop
 |[]=>True
 |R::l=>(∀d,R.con=some d->Sc 0 d)/\AllC0 l
theorem AllC0.get:∀{l:List Root},AllC0 l->∀(j:Nat) (R:Root) (d:Dat),l[j]? =some R->R.con=some d->Sc 0 d
 |[],_,j,R,d,h,_=>by simp at h
 |X::l,⟨h1,h2⟩,j,R,d,h,hd=>by
  cases j with
  |zero=>simp only[List.getElem?_cons_zero,Option.some.injEq] at h;subst h;exact h1 d hd
  |succ j=>exact h2.get j R d (by simpa using h) hd
theorem WPL.callG{ops:Array Oper}{dst:Tmp}{args:List Operand}{tys:Array TypeId}{t:TypeId}{pos:String}{after:Array Edge}{gg:Option (Nat×Bool)}{rest:List Oper}(ts:List Nat){Qf:Dat->List Root->Prop}(h:FnS P f xs m0 Qf)
  (hl:LeAll 0 m ts m0) (hk:sameKind m ts m0=true\/(noMine m0=true/\∀r m1,Qf r m1->OwnNew m0.length m1)) (hdi:distinct ts=true) (hx:ArgsR (tauOf ts) fr xs args) (hg:gd ops { dst:=some dst,op:=.call { callee:=.value (.func f),args:=args.toArray,argTypes:=tys },type:=t,pos:=pos,after:=after,guard:=gg } fr=some true) (hd:Nat.blt dst N=true) (hsc:∀x∈xs,Sc m0.length x)
  (k:∀r m1,Qf r m1->AllC0 m1/\∃r',renD (invT ts m.length) r r'/\Sc (putBack m ts m0 m1).length r'/\WPL P N K ops Q rest ⟨fup fr dst r',putBack m ts m0 m1⟩):
  WPL P N K ops Q ({ dst:=some dst,op:=.call { callee:=.value (.func f),args:=args.toArray,argTypes:=tys },type:=t,pos:=pos,after:=after,guard:=gg }::rest) ⟨fr,m⟩:=by
 intro ρ a w ⟨hfr,hdf,hr,hK⟩
 refine wpList_step λ Kc hKc=>?_
 rw[if_pos (gd_wanted hg hfr)]
 obtain⟨h1,h2⟩:=hx.eval hfr
 have h0:a.eval (.func f)=.func (.func f) #[] #[]:=rfl
 unfold Oper.wp
 rw[call_run rfl h0 (FnS.enter h)]
 simp only[Oper.upon]
 rw[show args.toArray.map a.eval=(xs.map (enc λ r=>ρ (tauOf ts r))).toArray by rw[<-h1];simp]
 refine(FnS.calls h _ w (hr.taken (Taken.view ts hl (by rw[hdi];simp))) (λ x hx=>⟨hsc x hx,h2 x hx⟩)).mono ?_
 rintro e w' ⟨r,ρ1,m1,rfl,h3,h4,h5,h6,h7⟩
 obtain⟨hc,r',k1,k2,k3⟩:=k r m1 h7
 obtain⟨g1,g2,g3⟩:=hr.call ts hl (hk.imp id λ h=>⟨h.1,h.2 r m1 h7⟩) hdi h5 h6 hc.get
 refine hKc _ _ ?_
 refine wpList_mono (λ e a w q=>Real.tr (s:=⟨fr,m⟩) (s1:=⟨fup fr dst r',putBack m ts m0 m1⟩) (g2.toK hK) q) _ _ _ ?_
 refine k3 _ _ w' ⟨(hfr.tr g2).putO (dst:=some dst) hd (.inr ⟨?_,k2,renD_ok' k1 h4⟩),by rw[put_defers];exact hdf,g1,Nat.le_trans hK g2.len⟩
 rw[renD_enc k1]
 exact(enc_congr (n:=m1.length) (λ j hj=>g3 j hj) r h3).symm
theorem WPL.callN{ops:Array Oper}{dst:Tmp}{args:List Operand}{tys:Array TypeId}{t:TypeId}{pos:String}{after:Array Edge}{gg:Option (Nat×Bool)}{rest:List Oper}(ts:List Nat){r0:Dat}{m1:List Root}(r':Dat)(h:FnS P f xs m0 λ r m'=>r=r0/\m'=m1)
  (hl:LeAll 0 m ts m0) (hk:sameKind m ts m0=true) (hdi:distinct ts=true) (hx:ArgsR (tauOf ts) fr xs args) (hg:gd ops { dst:=some dst,op:=.call { callee:=.value (.func f),args:=args.toArray,argTypes:=tys },type:=t,pos:=pos,after:=after,guard:=gg } fr=some true) (hd:Nat.blt dst N=true) (hsc:∀x∈xs,Sc m0.length x)
  (hc:AllC0 m1) (hr:renD (invT ts m.length) r0 r') (hs:Sc (putBack m ts m0 m1).length r') {mm:List Root}(hm:putBack m ts m0 m1=mm) (k:WPL P N K ops Q rest ⟨fup fr dst r',mm⟩):
  WPL P N K ops Q ({ dst:=some dst,op:=.call { callee:=.value (.func f),args:=args.toArray,argTypes:=tys },type:=t,pos:=pos,after:=after,guard:=gg }::rest) ⟨fr,m⟩:=by
 subst hm
 refine WPL.callG ts h hl (.inl hk) hdi hx hg hd hsc ?_
 rintro r m' ⟨rfl,rfl⟩
 exact⟨hc,r',hr,hs,k⟩
theorem WPL.callV{ops:Array Oper}{dst:Tmp}{args:List Operand}{tys:Array TypeId}{t:TypeId}{pos:String}{after:Array Edge}{gg:Option (Nat×Bool)}{rest:List Oper}(ts:List Nat){r0:Dat}{m1:List Root}(r':Dat)(h:FnS P f xs m0 λ r m'=>r=r0/\m'=m1)
  (hl:LeAll 0 m ts m0) (hn:noMine m0=true) (ho:OwnNew m0.length m1) (hdi:distinct ts=true) (hx:ArgsR (tauOf ts) fr xs args) (hg:gd ops { dst:=some dst,op:=.call { callee:=.value (.func f),args:=args.toArray,argTypes:=tys },type:=t,pos:=pos,after:=after,guard:=gg } fr=some true) (hd:Nat.blt dst N=true) (hsc:∀x∈xs,Sc m0.length x)
  (hc:AllC0 m1) (hr:renD (invT ts m.length) r0 r') (hs:Sc (putBack m ts m0 m1).length r') {mm:List Root}(hm:putBack m ts m0 m1=mm) (k:WPL P N K ops Q rest ⟨fup fr dst r',mm⟩):
  WPL P N K ops Q ({ dst:=some dst,op:=.call { callee:=.value (.func f),args:=args.toArray,argTypes:=tys },type:=t,pos:=pos,after:=after,guard:=gg }::rest) ⟨fr,m⟩:=by
 subst hm
 refine WPL.callG ts h hl (.inr ⟨hn,λ r m' hq=>hq.2▸ho⟩) hdi hx hg hd hsc ?_
 rintro r m' ⟨rfl,rfl⟩
 exact⟨hc,r',hr,hs,k⟩
def Norm(k:Nat)(r0:Dat)(m1:List Root)(r:Dat)(m:List Root):Prop:=∃τ,Taken τ k m m1/\renD τ r0 r/\Sc m1.length r0
theorem FnS.norm{r0:Dat}{m1:List Root}(h:FnS P f xs m0 (Norm m0.length r0 m1)):FnS P f xs m0 λ r m'=>r=r0/\m'=m1:=by
 refine⟨h.enter,λ ρ w hr hx=>(h.calls ρ w hr hx).mono ?_⟩
 rintro e w' ⟨r,ρ1,m',rfl,h2,h3,h4,h5,τ,ht,hren,hsc⟩
 refine⟨r0,λ j=>ρ1 (τ j),m1,by rw[renD_enc hren],hsc,renD_ok hren h3,h4.taken ht,?_,rfl,rfl⟩
 have hcut:TrK m0.length ρ1 m' w' (λ j=>ρ1 (τ j)) m1 w':=by
  refine⟨rfl,rfl,Nat.le_refl _,rfl,Nat.le_refl _,λ r hr=>by simp only[ht.fix r hr],λ _ _ _=>rfl,λ r R q h1 h2 h3=>.inr ?_,λ r R q h1 h2 h3=>.inr ?_⟩
  ·rcases ht.get r R h1 with rfl|⟨R0,h4,h5,_⟩
   ·cases h2
   ·exact⟨_,R0,q,h4,h5.mine h2,h5.atO h3,rfl⟩
  ·rcases ht.get r R h1 with rfl|⟨R0,h4,h5,_⟩
   ·exact absurd rfl h2.ne
   ·exact⟨_,R0,q,h4,h5.at h2,h3,rfl⟩
 exact((h5.toK (Nat.le_refl _)).trans hcut).full ht.len
theorem FnS.intoN(T:TyEnv)(hT:TOK P T){fn:Func}{c:Code}{l:List ResultVar}{r0:Dat}{m1:List Root}(hf:P.funcs[f]? =some fn)(hn:(fn.name== "runtime.NumGoroutine")=false)(hb:fn.body=some c)
  (hl:fn.results=l.toArray) (hk:fn.ntmps=N) (hN:xs.length<=N) (h:WP P N m0.length c (Ends T l (Norm m0.length r0 m1)) ⟨nthD xs,m0⟩):FnS P f xs m0 λ r m'=>r=r0/\m'=m1:=
 (FnS.into T hT hf hn hb hl hk hN h).norm
theorem Ends.new{T:TyEnv}{l:List ResultVar}{k:Nat}{r r0:Dat}{m1:List Root}{ps:List Prop}(ts:List Nat)(h:resE T fr m l=some (ps,r))(hp:AllP ps)(ht:LeAll k m ts m1)(hd:distinct ts=true)(hs:startsWith k 0 ts=true)(hr:renD (tauOf ts) r0 r)(hsc:Sc m1.length r0):
 Ends T l (Norm k r0 m1) .ret ⟨fr,m⟩:=⟨.inl rfl,ps,r,h,hp,_,Taken.of ts ht hd hs,hr,hsc⟩
end
end Go.Proofs.YthjnmlpibafbnaaGreat.DM
