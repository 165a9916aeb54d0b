import Derived.Test.YthjnmlpibafbnaaGreatD9
namespace Go.Proofs.YthjnmlpibafbnaaGreat.DM
open Go.RowKit
set_option linter.unusedSimpArgs false
def stOf:TypeDesc->List (TypeId×Nat)
 | .struct fs=>fs.toList.map λ f=>(f.type,f.offset)
 |_=>[]
theorem fits_st{P:Program}{t:TypeId}{fs:List (TypeId×Nat)}(h:(P.underlying t).map stOf=some fs)(hne:fs≠[]):(Ty.st fs).fits P t:=by
 cases hq:P.underlying t with
 |none=>rw[hq] at h;cases h
 |some d=>
  rw[hq] at h
  simp only[Option.map_some,Option.some.injEq] at h
  cases d<;>simp only[stOf] at h<;>first|exact absurd h.symm hne|exact⟨_,hq,h⟩
structure FnS(P:Program)(f:FuncId)(xs:List Dat)(m:List Root)(Q:Dat->List Root->Prop):Prop where
 enter:∀args w,(callFunc f args).run P w=.ok (.enter f args) w
 calls:∀ρ w,Rep ρ m w->(∀x∈xs,Sc m.length x/\Ok x)->
  Calls P f (xs.map (enc ρ)).toArray w λ e w'=>∃r ρ' m',e=.returned (enc ρ' r)/\Sc m'.length r/\Ok r/\Rep ρ' m' w'/\Tr ρ m w ρ' m' w'/\Q r m'
def FnP(P:Program)(f:FuncId)(xs:List Dat)(r:Dat):Prop:=FnS P f xs [] λ r' _=>r'=r/\Sc 0 r
theorem FnS.mono{P:Program}{f:FuncId}{xs:List Dat}{m:List Root}{Q Q':Dat->List Root->Prop}(h:FnS P f xs m Q)(hq:∀r m',Q r m'->Q' r m'):FnS P f xs m Q':=
 ⟨h.enter,λ ρ w hr hx=>(h.calls ρ w hr hx).mono λ _ _ ⟨r,ρ',m',h1,h2,h3,h4,h5,h6⟩=>⟨r,ρ',m',h1,h2,h3,h4,h5,hq _ _ h6⟩⟩
theorem callFunc_run{P:Program}{f:FuncId}{fn:Func}(hf:P.funcs[f]? =some fn)(hn:(fn.name== "runtime.NumGoroutine")=false)(hb:fn.body.isNone=false)(args:Array Value)(w:World):
  (callFunc f args).run P w=.ok (.enter f args) w:=by
 have h1:fn.name≠ "runtime.NumGoroutine":=by simpa using hn
 have h2:fn.body≠none:=by intro e;rw[e] at hb;cases hb
 unfold callFunc
 simp[program,Sem.run,hf,h1,h2]
theorem rep0(ρ:Rho)(w:World):Rep ρ [] w:=
 ⟨λ r d h=>by simp at h,λ r R d q e n s f h=>by simp at h,λ r R d q e n s f h=>by simp at h,λ r R q r' R' q' h=>by simp at h,λ r R d h=>by simp at h,λ r b l h=>by simp at h⟩
section
variable {P:Program}{N K:Nat}{Q Q':Exit->St->Prop}{s:St}
theorem call_run{o:Oper}{f:FuncId}{args:Array Operand}{ts:Array TypeId}{a:Act}{w:World}{f':Operand}(ho:o.op=.call { callee:=.value f',args:=args,argTypes:=ts })(hf:a.eval f'=.func (.func f) #[] #[])
  (he:∀args w,(callFunc f args).run P w=.ok (.enter f args) w):(execOp a.eval o).run P w=.ok (.enter f (args.map a.eval)) w:=by
 simp[execOp,ho,resolve,Deferred.ofValue,hf,invoke,he]
theorem args_eval{n:Nat}{ρ:Rho}{fr:Nat->Dat}{a:Act}(hf:Frm n ρ N fr a.tmps):∀{l:List Operand}{xs:List Dat},l.map (ev fr)=xs->(∀x∈xs,x≠.un)->l.map a.eval=xs.map (enc ρ)/\∀x∈xs,Sc n x/\Ok x
 |[],xs,h,_=>by subst h;exact⟨rfl,λ x hx=>by simp at hx⟩
 |y::l,xs,h,hu=>by
  subst h
  have h1:=ev_eq hf (x:=y) rfl (hu _ (by simp))
  obtain⟨h2,h3⟩:=args_eval hf (l:=l) rfl (λ x hx=>hu x (by simp only[List.map_cons,List.mem_cons];exact .inr hx))
  refine⟨by simp only[List.map_cons,h1.1,h2],λ x hx=>?_⟩
  simp only[List.map_cons,List.mem_cons] at hx
  rcases hx with rfl|hx
  ·exact h1.2
  ·exact h3 x hx
theorem FnP.calls{f:FuncId}{xs:List Dat}{r:Dat}(h:FnP P f xs r)(ρ:Rho)(w:World)(hx:∀x∈xs,Sc 0 x/\Ok x):
  Calls P f (xs.map (enc ρ)).toArray w λ e w'=>e=.returned (enc ρ r)/\Sc 0 r/\Ok r/\BelowD w.heap.size w w':=by
 refine(FnS.calls h ρ w (rep0 ρ w) hx).mono ?_
 rintro e w' ⟨r',ρ',m',rfl,h2,h3,h4,h5,rfl,h6⟩
 refine⟨?_,h6,h3,h5.below (λ r R h=>by simp at h)⟩
 rw[enc_congr (n:=0) (ρ:=ρ) (ρ':=ρ') (λ _ h=>absurd h (Nat.not_lt_zero _)) r' h6]
theorem WPL.callP{fr:Nat->Dat}{m:List Root}{ops:Array Oper}{o:Oper}{rest:List Oper}{f:FuncId}{args:List Operand}{ts:Array TypeId}{f':Operand}{xs:List Dat}{r:Dat}(h:FnP P f xs r)
  (ho:o.op=.call { callee:=.value f',args:=args.toArray,argTypes:=ts }) (hg:gd ops o fr=some true) (hd:dstOK N o.dst=true) (hf:ev fr f'=.fn f 0 (λ _=>.un)) (hx:args.map (ev fr)=xs) (hsc:∀x∈xs,Sc 0 x)
  (hu:∀x∈xs,x≠.un) (k:WPL P N K ops Q rest ⟨putO fr o.dst r,m⟩):WPL P N K ops Q (o::rest) ⟨fr,m⟩:=by
 intro ρ a w ⟨hfr,hdf,hr,hK⟩
 refine wpList_step λ Kc hKc=>?_
 rw[if_pos (gd_wanted hg hfr)]
 have h0:a.eval f'=.func (.func f) #[] #[]:=by rw[(ev_eq hfr hf (by simp)).1];rfl
 obtain⟨h1,h2⟩:=args_eval hfr hx hu
 unfold Oper.wp
 rw[call_run ho h0 (FnS.enter h)]
 simp only[Oper.upon]
 rw[show args.toArray.map a.eval=(xs.map (enc ρ)).toArray by rw[<-h1];simp]
 refine(h.calls ρ w (λ x hx=>⟨hsc x hx,(h2 x hx).2⟩)).mono ?_
 rintro e w' ⟨rfl,h3,h4,h5⟩
 refine hKc _ _ ?_
 have htr:=Tr.of_below (ρ:=ρ) (m:=m) h5
 refine wpList_mono (λ e a w q=>Real.tr (s:=⟨fr,m⟩) (s1:=⟨putO fr o.dst r,m⟩) (htr.toK hK) q) _ _ _ ?_
 exact k ρ _ w' ⟨hfr.putO hd (.inr ⟨rfl,h3.mono (Nat.zero_le _),h4⟩),by rw[put_defers];exact hdf,hr.below h5,hK⟩
def resE1(T:TyEnv)(fr:Nat->Dat)(m:List Root):ResultVar->Option (List Prop×Dat)
 | .tmp t=>match fr t with
  | .un=>none
  |d=>some ([],d)
 | .cell a t=>match loadE T t (fr a) m with
  |some (ps,d)=>some (ps,d)
  |none=>none
def ResRun(P:Program)(tmps:Array Value)(w:World)(v:Value):ResultVar->Prop
 | .tmp t=>tmps[t]?.getD undef=v
 | .cell a t=>∃ad,(asAddr (tmps[a]?.getD undef)).run P w=.ok ad w/\(loadVar t ad).run P w=.ok v w
theorem resE1_ok{T:TyEnv}(hT:TOK P T){fr:Nat->Dat}{m:List Root}{x:ResultVar}{ps:List Prop}{d:Dat}(h:resE1 T fr m x=some (ps,d))(hp:AllP ps){ρ:Rho}{tmps:Array Value}{w:World}
  (hf:Frm m.length ρ N fr tmps) (hr:Rep ρ m w):ResRun P tmps w (enc ρ d) x/\Sc m.length d/\Ok d:=by
 cases x with
 |tmp t=>
  have hd:fr t=d/\d≠.un:=by
   simp only[resE1] at h
   split at h
   ·cases h
   ·rename_i hne
    simp only[Option.some.injEq,Prod.mk.injEq] at h
    exact⟨h.2,λ e=>hne (h.2.trans e)⟩
  rcases hf.slot t with h1|⟨h1,h2,h3⟩
  ·exact absurd (hd.1.symm.trans h1) hd.2
  ·rw[hd.1] at h1 h2 h3
   rw[Array.getD_eq_getD_getElem?] at h1
   exact⟨h1,h2,h3⟩
 |cell a t=>
  simp only[resE1] at h
  split at h
  ·rename_i ps' d' hl
   simp only[Option.some.injEq,Prod.mk.injEq] at h
   obtain⟨rfl,rfl⟩:=h
   have hl':=loadE_ok hT hl hp hr
   have hpt:∃r q o,fr a=.p r q o:=by
    unfold loadE at hl
    split at hl
    ·rename_i he _;exact⟨_,_,_,he⟩
    ·cases hl
   obtain⟨r,q,o,he⟩:=hpt
   rcases hf.slot a with h1|⟨h1,_⟩
   ·rw[he] at h1;cases h1
   ·rw[he] at h1 hl'
    rw[Array.getD_eq_getD_getElem?] at h1
    refine⟨⟨⟨(ρ r []).b,(ρ r []).o+o,none⟩,?_,?_⟩,hl'.2⟩
    ·rw[h1];simp[enc,leaf,asAddr]
    ·have:=hl'.1
     unfold Instr.loadAt at this
     simpa only[enc,leaf,Instr.sureAddr,Sem.run_bind,Sem.run_pure,Result.andThen_ok] using this
  ·cases h
def tup2(d e:Dat):Nat->Dat
 |0=>d
 |_=>e
def tup3(d e g:Dat):Nat->Dat
 |0=>d
 |1=>e
 |_=>g
def tup4(d e g h:Dat):Nat->Dat
 |0=>d
 |1=>e
 |2=>g
 |_=>h
def t2(d e:Dat):Dat:=.tup 2 (tup2 d e)
def t3(d e g:Dat):Dat:=.tup 3 (tup3 d e g)
theorem sc_t2{k:Nat}{a b:Dat}(ha:Sc k a)(hb:Sc k b):Sc k (t2 a b):=λ i _=>match i with
 |0=>ha
 |_+1=>hb
theorem sc_t3{k:Nat}{a b c:Dat}(ha:Sc k a)(hb:Sc k b)(hc:Sc k c):Sc k (t3 a b c):=λ i _=>match i with
 |0=>ha
 |1=>hb
 |_+2=>hc
theorem ok_t2{a b:Dat}(ha:Ok a)(hb:Ok b):Ok (t2 a b):=λ i _=>match i with
 |0=>ha
 |_+1=>hb
def resE(T:TyEnv)(fr:Nat->Dat)(m:List Root)(l:List ResultVar):Option (List Prop×Dat):=
 match l with
 |[]=>some ([],.tup 0 (λ _=>.un))
 |[x]=>resE1 T fr m x
 |[x,y]=>match resE1 T fr m x,resE1 T fr m y with
  |some (ps,d),some (qs,e)=>some (ps++qs,.tup 2 (tup2 d e))
  |_,_=>none
 |[x,y,z]=>match resE1 T fr m x,resE1 T fr m y,resE1 T fr m z with
  |some (ps,d),some (qs,e),some (rs,g)=>some (ps++(qs++rs),.tup 3 (tup3 d e g))
  |_,_,_=>none
 |[x,y,z,u]=>match resE1 T fr m x,resE1 T fr m y,resE1 T fr m z,resE1 T fr m u with
  |some (ps,d),some (qs,e),some (rs,g),some (ss,h)=>some (ps++(qs++(rs++ss)),.tup 4 (tup4 d e g h))
  |_,_,_,_=>none
 |_=>none
theorem resE_ok{T:TyEnv}(hT:TOK P T){fr:Nat->Dat}{m:List Root}{fn:Func}{l:List ResultVar}(hl:fn.results=l.toArray){ps:List Prop}{d:Dat}(h:resE T fr m l=some (ps,d))(hp:AllP ps){ρ:Rho}{tmps:Array Value}{w:World}
  (hf:Frm m.length ρ N fr tmps) (hr:Rep ρ m w):(results fn tmps).run P w=.ok (enc ρ d) w/\Sc m.length d/\Ok d:=by
 unfold resE at h
 split at h
 ·simp only[Option.some.injEq,Prod.mk.injEq] at h
  obtain⟨_,rfl⟩:=h
  exact⟨by simp[results,hl,enc],λ i hi=>absurd hi (Nat.not_lt_zero _),λ i hi=>absurd hi (Nat.not_lt_zero _)⟩
 ·rename_i x
  have h1:=resE1_ok hT h hp hf hr
  refine⟨?_,h1.2⟩
  have e1:=h1.1
  cases x
  ·simp only[ResRun] at e1
   simp[results,hl,e1]
  ·obtain⟨a1,e1,f1⟩:=e1
   simp[results,hl,e1,f1]
 ·rename_i x y
  split at h
  ·rename_i hx hy
   simp only[Option.some.injEq,Prod.mk.injEq] at h
   obtain⟨rfl,rfl⟩:=h
   obtain⟨hp1,hp2⟩:=hp.app
   have h1:=resE1_ok hT hx hp1 hf hr
   have h2:=resE1_ok hT hy hp2 hf hr
   refine⟨?_,λ i hi=>?_,λ i hi=>?_⟩
   ·have e1:=h1.1;have e2:=h2.1
    cases x<;>cases y<;>simp only[ResRun] at e1 e2
    ·simp[results,hl,e1,e2,enc,List.range_succ,tup2,tup3]
    ·obtain⟨a2,e2,f2⟩:=e2;simp[results,hl,e1,e2,f2,enc,List.range_succ,tup2,tup3]
    ·obtain⟨a1,e1,f1⟩:=e1;simp[results,hl,e1,f1,e2,enc,List.range_succ,tup2,tup3]
    ·obtain⟨a1,e1,f1⟩:=e1;obtain⟨a2,e2,f2⟩:=e2;simp[results,hl,e1,f1,e2,f2,enc,List.range_succ,tup2,tup3]
   ·rcases i with _|_|i
    ·exact h1.2.1
    ·exact h2.2.1
    ·omega
   ·rcases i with _|_|i
    ·exact h1.2.2
    ·exact h2.2.2
    ·omega
  ·cases h
 ·rename_i x y z
  split at h
  ·rename_i hx hy hz
   simp only[Option.some.injEq,Prod.mk.injEq] at h
   obtain⟨rfl,rfl⟩:=h
   obtain⟨hp1,hp2⟩:=hp.app
   obtain⟨hp2,hp3⟩:=hp2.app
   have h1:=resE1_ok hT hx hp1 hf hr
   have h2:=resE1_ok hT hy hp2 hf hr
   have h3:=resE1_ok hT hz hp3 hf hr
   refine⟨?_,λ i hi=>?_,λ i hi=>?_⟩
   ·have e1:=h1.1;have e2:=h2.1;have e3:=h3.1
    cases x<;>cases y<;>cases z<;>simp only[ResRun] at e1 e2 e3
    ·simp[results,hl,e1,e2,e3,enc,List.range_succ,tup2,tup3]
    ·obtain⟨a3,e3,f3⟩:=e3;simp[results,hl,e1,e2,e3,f3,enc,List.range_succ,tup2,tup3]
    ·obtain⟨a2,e2,f2⟩:=e2;simp[results,hl,e1,e2,f2,e3,enc,List.range_succ,tup2,tup3]
    ·obtain⟨a2,e2,f2⟩:=e2;obtain⟨a3,e3,f3⟩:=e3;simp[results,hl,e1,e2,f2,e3,f3,enc,List.range_succ,tup2,tup3]
    ·obtain⟨a1,e1,f1⟩:=e1;simp[results,hl,e1,f1,e2,e3,enc,List.range_succ,tup2,tup3]
    ·obtain⟨a1,e1,f1⟩:=e1;obtain⟨a3,e3,f3⟩:=e3;simp[results,hl,e1,f1,e2,e3,f3,enc,List.range_succ,tup2,tup3]
    ·obtain⟨a1,e1,f1⟩:=e1;obtain⟨a2,e2,f2⟩:=e2;simp[results,hl,e1,f1,e2,f2,e3,enc,List.range_succ,tup2,tup3]
    ·obtain⟨a1,e1,f1⟩:=e1;obtain⟨a2,e2,f2⟩:=e2;obtain⟨a3,e3,f3⟩:=e3;simp[results,hl,e1,f1,e2,f2,e3,f3,enc,List.range_succ,tup2,tup3]
   ·rcases i with _|_|_|i
    ·exact h1.2.1
    ·exact h2.2.1
    ·exact h3.2.1
    ·omega
   ·rcases i with _|_|_|i
    ·exact h1.2.2
    ·exact h2.2.2
    ·exact h3.2.2
    ·omega
  ·cases h
 ·rename_i x y z u
  split at h
  ·rename_i hx hy hz hu
   simp only[Option.some.injEq,Prod.mk.injEq] at h
   obtain⟨rfl,rfl⟩:=h
   obtain⟨hp1,hp2⟩:=hp.app
   obtain⟨hp2,hp3⟩:=hp2.app
   obtain⟨hp3,hp4⟩:=hp3.app
   have h1:=resE1_ok hT hx hp1 hf hr
   have h2:=resE1_ok hT hy hp2 hf hr
   have h3:=resE1_ok hT hz hp3 hf hr
   have h4:=resE1_ok hT hu hp4 hf hr
   refine⟨?_,λ i hi=>?_,λ i hi=>?_⟩
   ·have e1:=h1.1;have e2:=h2.1;have e3:=h3.1;have e4:=h4.1
    cases x<;>cases y<;>cases z<;>cases u<;>simp only[ResRun] at e1 e2 e3 e4
    ·simp[results,hl,e1,e2,e3,e4,enc,List.range_succ,tup4]
    ·obtain⟨a4,e4,f4⟩:=e4;simp[results,hl,e1,e2,e3,e4,f4,enc,List.range_succ,tup4]
    ·obtain⟨a3,e3,f3⟩:=e3;simp[results,hl,e1,e2,e3,f3,e4,enc,List.range_succ,tup4]
    ·obtain⟨a3,e3,f3⟩:=e3;obtain⟨a4,e4,f4⟩:=e4;simp[results,hl,e1,e2,e3,f3,e4,f4,enc,List.range_succ,tup4]
    ·obtain⟨a2,e2,f2⟩:=e2;simp[results,hl,e1,e2,f2,e3,e4,enc,List.range_succ,tup4]
    ·obtain⟨a2,e2,f2⟩:=e2;obtain⟨a4,e4,f4⟩:=e4;simp[results,hl,e1,e2,f2,e3,e4,f4,enc,List.range_succ,tup4]
    ·obtain⟨a2,e2,f2⟩:=e2;obtain⟨a3,e3,f3⟩:=e3;simp[results,hl,e1,e2,f2,e3,f3,e4,enc,List.range_succ,tup4]
    ·obtain⟨a2,e2,f2⟩:=e2;obtain⟨a3,e3,f3⟩:=e3;obtain⟨a4,e4,f4⟩:=e4;simp[results,hl,e1,e2,f2,e3,f3,e4,f4,enc,List.range_succ,tup4]
    ·obtain⟨a1,e1,f1⟩:=e1;simp[results,hl,e1,f1,e2,e3,e4,enc,List.range_succ,tup4]
    ·obtain⟨a1,e1,f1⟩:=e1;obtain⟨a4,e4,f4⟩:=e4;simp[results,hl,e1,f1,e2,e3,e4,f4,enc,List.range_succ,tup4]
    ·obtain⟨a1,e1,f1⟩:=e1;obtain⟨a3,e3,f3⟩:=e3;simp[results,hl,e1,f1,e2,e3,f3,e4,enc,List.range_succ,tup4]
    ·obtain⟨a1,e1,f1⟩:=e1;obtain⟨a3,e3,f3⟩:=e3;obtain⟨a4,e4,f4⟩:=e4;simp[results,hl,e1,f1,e2,e3,f3,e4,f4,enc,List.range_succ,tup4]
    ·obtain⟨a1,e1,f1⟩:=e1;obtain⟨a2,e2,f2⟩:=e2;simp[results,hl,e1,f1,e2,f2,e3,e4,enc,List.range_succ,tup4]
    ·obtain⟨a1,e1,f1⟩:=e1;obtain⟨a2,e2,f2⟩:=e2;obtain⟨a4,e4,f4⟩:=e4;simp[results,hl,e1,f1,e2,f2,e3,e4,f4,enc,List.range_succ,tup4]
    ·obtain⟨a1,e1,f1⟩:=e1;obtain⟨a2,e2,f2⟩:=e2;obtain⟨a3,e3,f3⟩:=e3;simp[results,hl,e1,f1,e2,f2,e3,f3,e4,enc,List.range_succ,tup4]
    ·obtain⟨a1,e1,f1⟩:=e1;obtain⟨a2,e2,f2⟩:=e2;obtain⟨a3,e3,f3⟩:=e3;obtain⟨a4,e4,f4⟩:=e4;simp[results,hl,e1,f1,e2,f2,e3,f3,e4,f4,enc,List.range_succ,tup4]
   ·rcases i with _|_|_|_|i
    ·exact h1.2.1
    ·exact h2.2.1
    ·exact h3.2.1
    ·exact h4.2.1
    ·omega
   ·rcases i with _|_|_|_|i
    ·exact h1.2.2
    ·exact h2.2.2
    ·exact h3.2.2
    ·exact h4.2.2
    ·omega
  ·cases h
 ·cases h
def nthD:List Dat->Nat->Dat
 |[],_=>.un
 |x::_,0=>x
 |_::l,n+1=>nthD l n
theorem nthD_get:∀(l:List Dat) (n:Nat),nthD l n=(l[n]?).getD .un
 |[],n=>by simp[nthD]
 |x::l,0=>by simp[nthD]
 |x::l,n+1=>by simp[nthD,nthD_get l n]
theorem FnS.intro(T:TyEnv)(hT:TOK P T){f:FuncId}{fn:Func}{c:Code}{xs:List Dat}{m:List Root}{R:Dat->List Root->Prop}{l:List ResultVar}(hf:P.funcs[f]? =some fn)(hn:(fn.name== "runtime.NumGoroutine")=false)(hb:fn.body=some c)
  (hl:fn.results=l.toArray) (hN:xs.length<=fn.ntmps)
  (h:WP P fn.ntmps m.length c (λ e s=>(e=.ret\/e=.normal)/\∃ps r,resE T s.fr s.m l=some (ps,r)/\AllP ps/\R r s.m) ⟨nthD xs,m⟩):FnS P f xs m R:=by
 refine⟨callFunc_run hf hn (by rw[hb];rfl),λ ρ w hr hx=>?_⟩
 refine calls_of_wp hf hb ?_
 refine wp_mono (h ρ _ w ⟨⟨?_,λ t=>?_⟩,rfl,hr,Nat.le_refl _⟩) ?_
 ·simp;omega
 ·show Holds m.length ρ (nthD xs t) _
  rw[nthD_get]
  simp only[Array.getD_eq_getD_getElem?]
  by_cases ht:t<xs.length
  ·rw[Array.getElem?_append_left (by simpa using ht)]
   have e1:xs[t]? =some xs[t]:=List.getElem?_eq_getElem ht
   have e2:(xs.map (enc ρ)).toArray[t]? =some (enc ρ xs[t]):=by simp[ht]
   rw[e2,e1]
   exact .inr ⟨rfl,hx _ (List.getElem_mem ht)⟩
  ·have e1:xs[t]? =none:=by simp;omega
   rw[e1];exact .inl rfl
 ·rintro e a' w' ⟨ρ',s',⟨h1,h2,h3,hK⟩,h4,he,ps,r,h5,h6,h7⟩
  have hres:=resE_ok hT hl h5 h6 h1 h3
  have:bodyPost P fn (λ e w'=>∃r ρ' m',e=.returned (enc ρ' r)/\Sc m'.length r/\Ok r/\Rep ρ' m' w'/\Tr ρ m w ρ' m' w'/\R r m') .ret a' w':=
   ⟨h2,_,hres.1,r,ρ',s'.m,rfl,hres.2.1,hres.2.2,h3,h4.full hK,h7⟩
  rcases he with rfl|rfl<;>exact this
structure Cl(ρ:Rho)(m:List Root)(C:World->Prop):Prop where
 rep:∀w,C w->Rep ρ m w
 below:∀w w',C w->BelowD w.heap.size w w'->C w'
def QEnd(N:Nat)(ρ:Rho)(m:List Root)(C:World->Prop)(K:St->Prop):Act->Prop:=
 λ a'=>∃ρ' fr' m',Frm m'.length ρ' N fr' a'.tmps/\a'.defers=[]/\m.length<=m'.length/\(∀w,C w->Rep ρ' m' w/\Tr ρ m w ρ' m' w)/\K ⟨fr',m'⟩
def WQ(P:Program)(N:Nat)(ops:Array Oper)(K:St->Prop)(l:List Oper)(s:St):Prop:=
 ∀ρ a C,Frm s.m.length ρ N s.fr a.tmps->a.defers=[]->Cl ρ s.m C->(∃w,C w)->wpQuiet P ops C (QEnd N ρ s.m C K) l a
theorem quiet_mono'{P:Program}{ops:Array Oper}{C:World->Prop}:∀(l':List Oper) (a:Act) (K K':Act->Prop),(∀a,K a->K' a)->wpQuiet P ops C K l' a->wpQuiet P ops C K' l' a
 |[],a,K,K',hk,h=>hk _ h
 |o::l',a,K,K',hk,h=>by
  unfold wpQuiet at h ⊢
  split
  ·rename_i hw
   rw[if_pos hw] at h
   exact Oper.quiet_mono (λ a h=>quiet_mono' l' a K K' hk h) h
  ·rename_i hw
   rw[if_neg hw] at h
   exact quiet_mono' l' _ K K' hk h
theorem WQ.nil{ops:Array Oper}{K:St->Prop}(h:K s):WQ P N ops K [] s:=λ ρ _ _ h1 h2 hC _=>wpQuiet_nil ⟨ρ,s.fr,s.m,h1,h2,Nat.le_refl _,λ w hw=>⟨hC.rep w hw,Tr.refl _ _ _⟩,h⟩
theorem WQ.op{ops:Array Oper}{K:St->Prop}{o:Oper}{rest:List Oper}{fr:Nat->Dat}{m m':List Root}{v:Dat}(hg:gd ops o fr=some true)(hd:dstOK N o.dst=true)(ho:QOK P o fr m v m')
  (h:WQ P N ops K rest ⟨putO fr o.dst v,m'⟩):WQ P N ops K (o::rest) ⟨fr,m⟩:=by
 intro ρ a C hf hdf hC hne
 obtain⟨u,ρ',h1,h2,hu⟩:=ho N ρ a hf
 unfold wpQuiet
 rw[if_pos (gd_wanted hg hf)]
 refine⟨u,λ w hw=>?_,?_⟩
 ·unfold Oper.quietAt
  rw[(hu w (hC.rep w hw)).1]
  exact⟨rfl,rfl⟩
 ·obtain⟨w0,hw0⟩:=hne
  have g0:=hu w0 (hC.rep w0 hw0)
  have hC':Cl ρ' m' C:=⟨λ w hw=>(hu w (hC.rep w hw)).2.2.1,hC.below⟩
  have hf':Frm m'.length ρ' N fr a.tmps:=hf.tr g0.2.2.2
  refine quiet_mono' _ _ _ _ ?_ (h ρ' _ C (hf'.putO hd g0.2.1) (by rw[put_defers];exact hdf) hC' ⟨w0,hw0⟩)
  rintro a' ⟨ρ1,fr1,m1,k1,k2,k3,k4,k5⟩
  exact⟨ρ1,fr1,m1,k1,k2,Nat.le_trans h2 k3,λ w hw=>⟨(k4 w hw).1,((hu w (hC.rep w hw)).2.2.2).trans (k4 w hw).2⟩,k5⟩
theorem WQ.skip{ops:Array Oper}{K:St->Prop}{o:Oper}{rest:List Oper}{fr:Nat->Dat}{m:List Root}(hg:gd ops o fr=some false)(hd:dstOK N o.dst=true)
  (h:WQ P N ops K rest ⟨putO fr o.dst .un,m⟩):WQ P N ops K (o::rest) ⟨fr,m⟩:=by
 intro ρ a C hf hdf hC hne
 unfold wpQuiet
 rw[if_neg (by rw[gd_wanted hg hf];simp)]
 exact h ρ _ C (hf.putO hd (.inl rfl)) (by rw[put_defers];exact hdf) hC hne
def allQ:List Oper->Bool
 |[]=>true
 |o::l=>bif isQ o.op then allQ l else false
theorem evalOps_q{T:TyEnv}(hT:TOK P T){wm:Bool}{ops:Array Oper}{K:St->Prop}:∀{l k:List Oper}{fr:Nat->Dat}{m:List Root}{ps:List Prop}{s':St},allQ l=true->evalOps T wm N ops l fr m=some (ps,s')->AllP ps->
  WQ P N ops K k s'->WQ P N ops K (l++k) ⟨fr,m⟩
 |[],k,fr,m,ps,s',_,h,_,hk=>by
  simp only[evalOps,Option.some.injEq,Prod.mk.injEq] at h
  obtain⟨_,rfl⟩:=h
  exact hk
 |o::l,k,fr,m,ps,s',hq,h,hp,hk=>by
  simp only[allQ] at hq
  cases hq1:isQ o.op with
  |false=>rw[hq1] at hq;cases hq
  |true=>
  rw[hq1] at hq
  simp only[evalOps] at h
  split at h
  ·rename_i hg
   cases hd:dstOK N o.dst with
   |false=>rw[hd] at h;cases h
   |true=>
    rw[hd] at h
    simp only[cond_true] at h
    split at h
    ·rename_i ps1 v m1 he
     split at h
     ·rename_i qs s1 hr
      simp only[Option.some.injEq,Prod.mk.injEq] at h
      obtain⟨rfl,rfl⟩:=h
      obtain⟨hp1,hp2⟩:=hp.app
      exact WQ.op hg hd (evalOp_q hT hq1 he hp1) (evalOps_q hT hq hr hp2 hk)
     ·cases h
    ·cases h
  ·rename_i hg
   cases hd:dstOK N o.dst with
   |false=>rw[hd] at h;cases h
   |true=>
    rw[hd] at h
    exact WQ.skip hg hd (evalOps_q hT hq h hp hk)
  ·cases h
theorem WQ.run{fr:Nat->Dat}{m:List Root}(T:TyEnv)(wm:Bool)(n:Nat)(hT:TOK P T){ops:Array Oper}{K:St->Prop}{l:List Oper}{ps:List Prop}{fr':Nat->Dat}{m':List Root}(h:evF T wm N ops (l.take n) fr m []=some (ps,⟨fr',m'⟩))(hq:allQ (l.take n)=true)(hp:AllP ps)
  (k:WQ P N ops K (l.drop n) ⟨fr',m'⟩):WQ P N ops K l ⟨fr,m⟩:=by
 have:=evalOps_q (K:=K) hT hq (evF_nil h) hp k
 rwa [List.take_append_drop] at this
theorem WP.drawsQ(hm:P.follows .mixedOrders=true){id:Nat}{l:List Oper}(hB:Region.lexB .any l.toArray=true)(h:WQ P N l.toArray (Q .normal) l s):WP P N K (.region id l.toArray true) Q s:=by
 intro ρ a w ⟨hf,hdf,hr,hK⟩
 have hb:BelowD w.heap.size w { w with drawn:=w.drawn+1 }:=⟨rfl,rfl,by first|exact Nat.le_succ _|exact Nat.le_refl _,rfl,Nat.le_refl _,λ _ _=>rfl⟩
 let C:World->Prop:=λ w1=>Rep ρ s.m w1/\Tr ρ s.m w ρ s.m w1
 have hC:Cl ρ s.m C:=⟨λ _ h=>h.1,λ _ _ h hb=>⟨h.1.below hb,h.2.trans (Tr.of_below hb)⟩⟩
 have h0:C { w with drawn:=w.drawn+1 }:=⟨hr.below hb,Tr.of_below hb⟩
 refine wp_region_quiet (C:=C) hm hB h0 ?_
 refine quiet_mono' _ _ _ _ ?_ (h ρ a C hf hdf hC ⟨_,h0⟩)
 rintro a' ⟨ρ',fr',m',h1,h2,h5,h3,h4⟩ w' hw
 obtain⟨g1,g2⟩:=h3 w' hw
 exact⟨ρ',⟨fr',m'⟩,⟨h1,h2,g1,Nat.le_trans hK h5⟩,(hw.2.trans g2).toK hK,h4⟩
end
end Go.Proofs.YthjnmlpibafbnaaGreat.DM
namespace Go.Proofs.YthjnmlpibafbnaaGreat.DM
open Go.RowKit
section
variable {P:Program}{N K:Nat}{Q Q':Exit->St->Prop}{s:St}
theorem WP.rs{fr:Nat->Dat}{m:List Root}(T:TyEnv)(wm:Bool)(hT:TOK P T){id:Nat}{l:List Oper}{y:Code}{ps:List Prop}{fr':Nat->Dat}{m':List Root}(h:evF T wm N l.toArray l fr m []=some (ps,⟨fr',m'⟩))(hp:AllP ps)
 (k:WP P N K y Q ⟨fr',m'⟩):WP P N K (.seq (.region id l.toArray false) y) Q ⟨fr,m⟩:=WP.seq (WP.run T wm hT h hp k)
theorem WP.rw{id:Nat}{l:List Oper}{y:Code}(h:WPL P N K l.toArray (Then (WP P N K y Q) Q) l s):WP P N K (.seq (.region id l.toArray false) y) Q s:=WP.seq (WP.region h)
theorem WP.dw(hm:P.follows .mixedOrders=true){id:Nat}{l:List Oper}{y:Code}(hB:Region.lexB .any l.toArray=true)(h:WQ P N l.toArray (WP P N K y Q) l s):WP P N K (.seq (.region id l.toArray true) y) Q s:=
 WP.seq (WP.drawsQ hm hB h)
theorem WP.cs{fr:Nat->Dat}{m:List Root}{c:Operand}{x y z:Code}{b:Bool}(hc:ev fr c=.b b)(ht:b=true->WP P N K x (Then (WP P N K z Q) Q) ⟨fr,m⟩)(hf:b=false->WP P N K y (Then (WP P N K z Q) Q) ⟨fr,m⟩):WP P N K (.seq (.cond c x y) z) Q ⟨fr,m⟩:=
 WP.seq (WP.cond hc ht hf)
theorem WP.mem{fr:Nat->Dat}{m m':List Root}{c:Code}(h:m=m')(k:WP P N K c Q ⟨fr,m'⟩):WP P N K c Q ⟨fr,m⟩:=h▸k
theorem WPL.mem{fr:Nat->Dat}{m m':List Root}{ops:Array Oper}{l:List Oper}(h:m=m')(k:WPL P N K ops Q l ⟨fr,m'⟩):WPL P N K ops Q l ⟨fr,m⟩:=h▸k
theorem WPL.fin{fr:Nat->Dat}{m:List Root}(T:TyEnv)(wm:Bool)(hT:TOK P T){ops:Array Oper}{l:List Oper}{ps:List Prop}{fr':Nat->Dat}{m':List Root}(h:evF T wm N ops l fr m []=some (ps,⟨fr',m'⟩))(hp:AllP ps)
  (k:Q .normal ⟨fr',m'⟩):WPL P N K ops Q l ⟨fr,m⟩:=by
 have:=evalOps_ok (Q:=Q) (K:=K) (k:=[]) hT (evF_nil h) hp (WPL.nil k)
 rwa [List.append_nil] at this
theorem WQ.fin{fr:Nat->Dat}{m:List Root}(T:TyEnv)(wm:Bool)(hT:TOK P T){ops:Array Oper}{K:St->Prop}{l:List Oper}{ps:List Prop}{fr':Nat->Dat}{m':List Root}(h:evF T wm N ops l fr m []=some (ps,⟨fr',m'⟩))(hq:allQ l=true)(hp:AllP ps)
  (k:K ⟨fr',m'⟩):WQ P N ops K l ⟨fr,m⟩:=by
 have:=evalOps_q (K:=K) (k:=[]) hT hq (evF_nil h) hp (WQ.nil k)
 rwa [List.append_nil] at this
theorem WPL.call{fr:Nat->Dat}{m:List Root}{ops:Array Oper}{dst:Tmp}{f:FuncId}{args:List Operand}{ts:Array TypeId}{t:TypeId}{pos:String}{after:Array Edge}{gg:Option (Nat×Bool)}{rest:List Oper}{xs:List Dat}{r:Dat}(h:FnP P f xs r)
  (hx:args.map (ev fr)=xs) (hg:gd ops { dst:=some dst,op:=.call { callee:=.value (.func f),args:=args.toArray,argTypes:=ts },type:=t,pos:=pos,after:=after,guard:=gg } fr=some true) (hd:Nat.blt dst N=true) (hsc:∀x∈xs,Sc 0 x/\x≠.un) (k:WPL P N K ops Q rest ⟨fup fr dst r,m⟩):
  WPL P N K ops Q ({ dst:=some dst,op:=.call { callee:=.value (.func f),args:=args.toArray,argTypes:=ts },type:=t,pos:=pos,after:=after,guard:=gg }::rest) ⟨fr,m⟩:=
 WPL.callP h rfl hg hd rfl hx (λ x hx=>(hsc x hx).1) (λ x hx=>(hsc x hx).2) k
def Ends(T:TyEnv)(l:List ResultVar)(R:Dat->List Root->Prop):Exit->St->Prop:=λ e s=>(e=.ret\/e=.normal)/\∃ps r,resE T s.fr s.m l=some (ps,r)/\AllP ps/\R r s.m
theorem FnS.into(T:TyEnv)(hT:TOK P T){f:FuncId}{fn:Func}{c:Code}{xs:List Dat}{m:List Root}{R:Dat->List Root->Prop}{l:List ResultVar}(hf:P.funcs[f]? =some fn)(hn:(fn.name== "runtime.NumGoroutine")=false)(hb:fn.body=some c)
  (hl:fn.results=l.toArray) (hk:fn.ntmps=N) (hN:xs.length<=N) (h:WP P N m.length c (Ends T l R) ⟨nthD xs,m⟩):FnS P f xs m R:=by
 subst hk
 exact FnS.intro T hT hf hn hb hl hN h
theorem Ends.of{T:TyEnv}{l:List ResultVar}{R:Dat->List Root->Prop}{e:Exit}{ps:List Prop}{r:Dat}(he:e=.ret\/e=.normal)(h:resE T s.fr s.m l=some (ps,r))(hp:AllP ps)(hr:R r s.m):Ends T l R e s:=⟨he,ps,r,h,hp,hr⟩
theorem Ends.val{T:TyEnv}{fr:Nat->Dat}{m:List Root}{l:List ResultVar}{r:Dat}{ps:List Prop}{r':Dat}(h:resE T fr m l=some (ps,r'))(hp:AllP ps)(hr:r'=r)(hs:Sc 0 r):Ends T l (λ r' _=>r'=r/\Sc 0 r) .ret ⟨fr,m⟩:=
 ⟨.inl rfl,ps,r',h,hp,hr,hs⟩
end
end Go.Proofs.YthjnmlpibafbnaaGreat.DM
namespace Go.Proofs.YthjnmlpibafbnaaGreat.DM
open Go.RowKit
def lst(l:List (Nat×Dat)):Nat->Dat:=λ t=>look l t .un
def renD(τ:Nat->Nat):Dat->Dat->Prop
 | .p r q o,d=>d=.p (τ r) q o
 | .sl r a b c,d=>d=.sl (τ r) a b c
 | .tup n f,d=>∃f',d=.tup n f'/\∀i,i<n->renD τ (f i) (f' i)
 |d',d=>d=d'/\Sc 0 d
def SlotsR(τ:Nat->Nat)(n:Nat)(fr:Nat->Dat):List (Nat×Dat)->Prop
 |[]=>True
 |(x,v)::l=>(renD τ v (fr x)/\Sc n v)/\SlotsR τ n fr l
theorem look_mem{l:List (Nat×Dat)}{t:Nat}:look l t .un=.un\/∃v,(t,v)∈l/\look l t .un=v:=by
 induction l with
 |nil=>exact .inl rfl
 |cons x l ih=>
  obtain⟨x,v⟩:=x
  simp only[look]
  cases e:Nat.beq x t with
  |true=>
   have:=Nat.eq_of_beq_eq_true e
   subst this
   exact .inr ⟨v,by simp,rfl⟩
  |false=>
   rcases ih with h|⟨v',h1,h2⟩
   ·exact .inl h
   ·exact .inr ⟨v',by simp[h1],h2⟩
theorem SlotsR.mem{τ:Nat->Nat}{n:Nat}{fr:Nat->Dat}:∀{l:List (Nat×Dat)},SlotsR τ n fr l->∀{x:Nat}{v:Dat},(x,v)∈l->renD τ v (fr x)/\Sc n v
 |(y,u)::l,h,x,v,hm=>by
  simp only[List.mem_cons,Prod.mk.injEq] at hm
  rcases hm with⟨rfl,rfl⟩|hm
  ·exact h.1
  ·exact h.2.mem hm
theorem renD_enc{τ:Nat->Nat}{ρ:Rho}:∀{d' d:Dat},renD τ d' d->enc ρ d=enc (λ r=>ρ (τ r)) d':=by
 intro d'
 induction d'<;>intro d h<;>simp only[renD] at h
 case p=>rw[h];rfl
 case sl=>rw[h];rfl
 case tup n f ih=>
  obtain⟨f',rfl,h⟩:=h
  simp only[enc]
  congr 2
  exact List.map_congr_left λ i hi=>ih i (h i (List.mem_range.1 hi))
 all_goals (obtain⟨rfl,h⟩:=h;exact(enc_congr (n:=0) (λ _ h=>absurd h (Nat.not_lt_zero _)) _ h).symm)
theorem renD_ok{τ:Nat->Nat}:∀{d' d:Dat},renD τ d' d->Ok d->Ok d':=by
 intro d'
 induction d'<;>intro d h ho<;>simp only[renD] at h
 case p=>exact⟨trivial,trivial⟩
 case sl=>exact⟨trivial,trivial⟩
 case tup n f ih=>
  obtain⟨f',rfl,h⟩:=h
  exact λ i hi=>ih i (h i hi) (ho i hi)
 all_goals (obtain⟨rfl,h⟩:=h;exact ho)
section
variable {P:Program}{N K:Nat}{Q:Exit->St->Prop}{fr:Nat->Dat}{m m':List Root}
theorem Rel.cut{ρ:Rho}{a:Act}{w:World}{τ:Nat->Nat}{k:Nat}{l:List (Nat×Dat)}(hk:K<=k)(ht:Taken τ k m m')(hl:SlotsR τ m'.length fr l)(h:Rel N K ρ ⟨fr,m⟩ a w):
  Rel N K (λ r=>ρ (τ r)) ⟨lst l,m'⟩ a w/\TrK K ρ m w (λ r=>ρ (τ r)) m' w:=by
 obtain⟨hf,hdf,hr,hK⟩:=h
 have hr':=hr.taken ht
 refine⟨⟨⟨hf.size,λ t=>?_⟩,hdf,hr',Nat.le_trans hk ht.len⟩,⟨rfl,rfl,Nat.le_refl _,rfl,Nat.le_refl _,λ r hr=>by simp only[ht.fix r (by omega)],λ _ _ _=>rfl,λ r R q h1 h2 h3=>.inr ?_,λ r R q h1 h2 h3=>.inr ?_⟩⟩
 ·rcases look_mem (l:=l) (t:=t) with h0|⟨v,h1,h2⟩
  ·exact .inl h0
  ·obtain⟨g1,g2⟩:=hl.mem h1
   show Holds m'.length (λ r=>ρ (τ r)) (look l t .un) _
   rw[h2]
   rcases hf.slot t with h3|⟨h3,_,h5⟩
   ·have h3:fr t=.un:=h3
    rw[h3] at g1
    left
    cases v<;>simp only[renD] at g1<;>first|(cases g1;done)|(obtain⟨f',g1,_⟩:=g1;cases g1;done)|(obtain⟨g1,_⟩:=g1;first|(cases g1;done)|exact g1.symm|rfl)
   ·have h3:a.tmps.getD t undef=enc ρ (fr t):=h3
    exact .inr ⟨by rw[h3];exact renD_enc g1,g2,renD_ok g1 h5⟩
 ·rcases ht.get r R h1 with rfl|⟨R0,h4,h5,_⟩
  ·cases h2
  ·exact⟨_,R0,q,h4,h5.mine h2,h5.atO h3,rfl⟩
 ·rcases ht.get r R h1 with rfl|⟨R0,h4,h5,_⟩
  ·exact absurd rfl h2.ne
  ·exact⟨_,R0,q,h4,h5.at h2,h3,rfl⟩
def pickT:List Nat->Nat->Nat
 |[],_=>0
 |t::_,0=>t
 |_::l,j+1=>pickT l j
def distinct:List Nat->Bool
 |[]=>true
 |t::l=>bif memN l t then false else distinct l
def startsWith(k:Nat):Nat->List Nat->Bool
 |i,[]=>Nat.ble k i
 |i,t::l=>(Nat.ble k i||Nat.beq t i)&&startsWith k (i+1) l
def LeAll(k:Nat)(m:List Root):List Nat->List Root->Prop
 |t::ts,R::l=>(∃R0,m[t]? =some R0/\R0.Le R/\∀d,R.con=some d->Sc k d)/\LeAll k m ts l
 |[],[]=>True
 |_,_=>False
theorem pickT_get:∀{ts:List Nat}{j:Nat},j<ts.length->ts[j]? =some (pickT ts j)
 |t::ts,0,_=>rfl
 |t::ts,j+1,h=>by simp only[List.getElem?_cons_succ,pickT];exact pickT_get (by simpa using h)
 |[],j,h=>by simp at h
theorem memN_iff:∀{l:List Nat}{t:Nat},memN l t=true↔t∈l
 |[],t=>by simp[memN]
 |x::l,t=>by
  simp only[memN,List.mem_cons]
  cases e:Nat.beq x t with
  |true=>simp[(Nat.eq_of_beq_eq_true e).symm]
  |false=>
   have hne:t≠x:=λ h=>by subst h;rw[show Nat.beq t t=true from Nat.beq_refl t] at e;cases e
   simp only[cond_false,memN_iff,hne,false_or]
theorem distinct_inj:∀{ts:List Nat},distinct ts=true->∀{i j:Nat},i<ts.length->j<ts.length->pickT ts i=pickT ts j->i=j
 |[],_,i,j,h,_,_=>by simp at h
 |t::ts,hd,i,j,hi,hj,e=>by
  simp only[distinct] at hd
  cases hm:memN ts t with
  |true=>rw[hm] at hd;cases hd
  |false=>
   rw[hm] at hd
   have hnot:∀{i:Nat},i<ts.length->pickT ts i≠t:=λ hi e=>by
    have:=pickT_get hi
    rw[e] at this
    have h2:=memN_iff.2 (List.mem_of_getElem? this)
    rw[hm] at h2;cases h2
   cases i with
   |zero=>
    cases j with
    |zero=>rfl
    |succ j=>exact absurd e.symm (hnot (by simpa using hj))
   |succ i=>
    cases j with
    |zero=>exact absurd e (hnot (by simpa using hi))
    |succ j=>rw[distinct_inj hd (by simpa using hi) (by simpa using hj) e]
theorem LeAll.get:∀{k:Nat}{ts:List Nat}{l:List Root},LeAll k m ts l->ts.length=l.length/\∀{j:Nat}{R:Root},l[j]? =some R->∃R0,m[pickT ts j]? =some R0/\R0.Le R/\∀d,R.con=some d->Sc k d
 |k,[],[],_=>⟨rfl,λ h=>by simp at h⟩
 |k,[],_::_,h=>h.elim
 |k,_::_,[],h=>h.elim
 |k,t::ts,R::l,⟨h1,h2⟩=>by
  obtain⟨g1,g2⟩:=h2.get
  refine⟨by simp[g1],λ{j R'} hj=>?_⟩
  cases j with
  |zero=>simp only[List.getElem?_cons_zero,Option.some.injEq] at hj;subst hj;exact h1
  |succ j=>exact g2 (by simpa using hj)
theorem startsWith_get{k:Nat}:∀{ts:List Nat}{i:Nat},startsWith k i ts=true->k<=i+ts.length/\∀{j:Nat},i+j<k->pickT ts j=i+j
 |[],i,h=>by
  have:=Nat.le_of_ble_eq_true h
  exact⟨by simpa using this,λ{j} hj=>by omega⟩
 |t::ts,i,h=>by
  simp only[startsWith,Bool.and_eq_true,Bool.or_eq_true] at h
  obtain⟨h1,h2⟩:=h
  obtain⟨g1,g2⟩:=startsWith_get h2
  refine⟨by simp only[List.length_cons];omega,λ{j} hj=>?_⟩
  cases j with
  |zero=>
   rcases h1 with h1|h1
   ·have:=Nat.le_of_ble_eq_true h1;omega
   ·simpa[pickT] using Nat.eq_of_beq_eq_true h1
  |succ j=>
   simp only[pickT]
   rw[g2 (by omega)];omega
theorem Taken.of(ts:List Nat){k:Nat}(h:LeAll k m ts m')(hd:distinct ts=true)(hs:startsWith k 0 ts=true):Taken (λ j=>bif Nat.blt j ts.length then pickT ts j else j) k m m':=by
 obtain⟨g1,g2⟩:=h.get
 obtain⟨f1,f2⟩:=startsWith_get hs
 have hlt:∀{j:Nat}{R:Root},m'[j]? =some R->j<ts.length:=λ h=>by rw[g1];exact(List.getElem?_eq_some_iff.1 h).1
 have ht:∀{j:Nat},j<ts.length->(bif Nat.blt j ts.length then pickT ts j else j)=pickT ts j:=λ{j} h=>by rw[show Nat.blt j ts.length=true from by rw[Nat.blt_eq];exact h];rfl
 refine⟨λ j R hj=>.inr ?_,λ i j R R' hi hj _ _ e=>?_,λ r hr=>?_,by omega⟩
 ·rw[ht (hlt hj)];exact g2 hj
 ·rw[ht (hlt hi),ht (hlt hj)] at e
  exact distinct_inj hd (hlt hi) (hlt hj) e
 ·rw[ht (by omega)]
  have:=f2 (j:=r) (by omega)
  omega
end
end Go.Proofs.YthjnmlpibafbnaaGreat.DM
