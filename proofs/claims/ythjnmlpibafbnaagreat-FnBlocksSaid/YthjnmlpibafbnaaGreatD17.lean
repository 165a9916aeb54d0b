import Derived.Test.YthjnmlpibafbnaaGreatD13
import Derived.StillTail
namespace Go.Proofs.YthjnmlpibafbnaaGreat.DM
open Go.RowKit
set_option linter.unusedSimpArgs false
def idxT(t j:Nat)(l:List Oper):Option Nat:=match l with
 |[]=>none
 |o::l=>match o.dst with
  |some d=>bif Nat.beq d t then some j else idxT t (j+1) l
  |none=>idxT t (j+1) l
def nthO(l:List Dat)(j:Nat):Dat:=match l,j with
 |[],_=>.un
 |x::_,0=>x
 |_::l,j+1=>nthO l j
def ovl(L:List Oper)(vs:List Dat)(inc:Nat->Bool)(fr0:Nat->Dat)(t:Nat):Dat:=match idxT t 0 L with
 |some j=>bif inc j then nthO vs j else .un
 |none=>fr0 t
def depsL(l:List Edge):List Nat:=match l with
 |[]=>[]
 |e::l=>bif Region.binds .any e then e.on::depsL l else depsL l
def depsOf(o:Oper):List Nat:=depsL o.after.toList
inductive KD where
 |qt
 |al (z:Dat)
 |st (a:Nat) (v:Dat)
def cntA:List KD->Nat->Nat
 |[],_=>0
 |_,0=>0
 | .al _::l,j+1=>cntA l j+1
 | .qt::l,j+1=>cntA l j
 | .st _ _::l,j+1=>cntA l j
section
variable {P:Program}{N K:Nat}{Q:Exit->St->Prop}
def QC(P:Program)(o:Oper)(fr:Nat->Dat)(m:List Root)(v:Dat):Prop:=
 ∀(N:Nat) (ρ:Rho) (a:Act) (w:World),Frm m.length ρ N fr a.tmps->Rep ρ m w->∀(Kc:Act->World->Prop) (Q':Exit->Act->World->Prop),(∀u w',Holds m.length ρ v u->BelowD w.heap.size w w'->Kc (a.put o.dst u) w')->o.wp P a w Kc Q'
theorem QC.call{dst:Tmp}{args:List Operand}{tys:Array TypeId}{t:TypeId}{pos:String}{after:Array Edge}{gg:Option (Nat×Bool)}{f:FuncId}{xs:List Dat}{r:Dat}{fr:Nat->Dat}{m m0:List Root}(ts:List Nat)(h:FnR P f xs m0 r)(hn:noMine m0=true)
  (hl:LeAll 0 m ts m0) (hx:ArgsR (tauOf ts) fr xs args) (hsc:∀x∈xs,Sc m0.length x):
  QC P { dst:=some dst,op:=.call { callee:=.value (.func f),args:=args.toArray,argTypes:=tys },type:=t,pos:=pos,after:=after,guard:=gg } fr m r:=by
 intro N ρ a w hfr hr Kc Q' hK
 obtain⟨h1,h2⟩:=hx.eval hfr
 have h0:a.eval (.func f)=.func (.func f) #[] #[]:=rfl
 unfold Oper.wp
 rw[call_run rfl h0 (FnS.enter h)]
 simp only[Oper.upon]
 rw[show args.toArray.map a.eval=(xs.map (enc λ r=>ρ (tauOf ts r))).toArray by rw[<-h1];simp]
 refine(h.calls hn (hr.taken (Taken.view ts hl (by rw[hn];rfl))) (λ x hx=>⟨hsc x hx,h2 x hx⟩) ρ).mono ?_
 rintro e w' ⟨rfl,h3,h4,h5⟩
 exact hK _ _ (.inr ⟨rfl,h3.mono (Nat.zero_le _),h4⟩) h5
structure HH(P:Program)(T:TyEnv)(ops:Array Oper)(L:List Oper)(na:Nat)(fr0:Nat->Dat)(m0:List Root)(vs:List Dat)(kd:List KD):Prop where
 len:kd.length=vs.length
 each:∀j o v q,L[j]? =some o->vs[j]? =some v->kd[j]? =some q->
  (q=.qt/\((gd ops o (ovl L (vs.take j) (memN (depsOf o)) fr0)=some true/\QC P o (ovl L (vs.take j) (memN (depsOf o)) fr0) (m0++List.replicate na .dead) v/\Sc m0.length v)\/(gd ops o (ovl L (vs.take j) (memN (depsOf o)) fr0)=some false/\v=.un)))\/
  (∃t i,q=.al i.z/\o.op=.alloc t/\o.guard=none/\T t=some i/\v=.p (m0.length+cntA kd j) [] 0)\/
  (∃t x y i a u z,q=.st a u/\o.op=.store t x y/\o.guard=none/\o.dst=none/\T t=some i/\fit i u=true/\kd[a]? =some (.al z)/\fit i z=true/\memN (depsOf o) a=true/\ev (ovl L (vs.take j) (memN (depsOf o)) fr0) x=.p (m0.length+cntA kd a) [] 0/\
   ev (ovl L (vs.take j) (memN (depsOf o)) fr0) y=u/\Sc m0.length u/\∀j',j'<j->∀w,kd[j']?≠some (.st a w))
def cntU:Nat->(Nat->Bool)->Nat
 |0,_=>0
 |n+1,f=>cntU n f+(bif f n then 0 else 1)
theorem cntU_set{i:Nat}{f g:Nat->Bool}(hf:f i=false)(hg:g i=true)(h:∀j,j≠i->g j=f j):∀{n:Nat},(i<n->cntU n f=cntU n g+1)/\(n<=i->cntU n f=cntU n g)
 |0=>⟨λ h=>by omega,λ _=>rfl⟩
 |n+1=>by
  obtain⟨h1,h2⟩:=cntU_set hf hg h (n:=n)
  refine⟨λ hi=>?_,λ hi=>?_⟩
  ·by_cases e:i=n
   ·subst e;simp only[cntU,hf,hg,h2 (Nat.le_refl _)];rfl
   ·simp only[cntU,h n (by omega),h1 (by omega)];omega
  ·simp only[cntU,h n (by omega),h2 (by omega)]
end
end Go.Proofs.YthjnmlpibafbnaaGreat.DM

namespace Go.Proofs.YthjnmlpibafbnaaGreat.DM
open Go.RowKit
section
variable {P:Program}{T:TyEnv}{N K:Nat}{Q:Exit->St->Prop}{ops:Array Oper}{L:List Oper}{na:Nat}{fr0:Nat->Dat}{m0:List Root}{vs:List Dat}{kd:List KD}
theorem HH.nil:HH P T ops L na fr0 m0 [] []:=⟨rfl,λ j o v q _ h=>by simp at h⟩
theorem LeAll.cons{k:Nat}{m:List Root}{t:Nat}{ts:List Nat}{R R0:Root}{l:List Root}(h1:m[t]? =some R0)(h2:R0.Le R)(h3:∀d,R.con=some d->Sc k d)(h4:LeAll k m ts l):LeAll k m (t::ts) (R::l):=⟨⟨R0,h1,h2,h3⟩,h4⟩
theorem le_row{e:TypeId}{n n' s:Nat}{f f':Nat->Dat}(hn:n'<=n)(h:∀i,i<n'->f' i=f i):(Root.row e n s f).Le (.row e n' s f'):=⟨⟨rfl,rfl⟩,hn,h⟩
theorem le_frz{e:TypeId}{n n' s:Nat}{f f':Nat->Dat}(hn:n'<=n)(h:∀i,i<n'->f' i=f i):(Root.row e n s f).Le (.ro n' s f'):=⟨rfl,hn,h⟩
theorem le_ro{n n' s:Nat}{f f':Nat->Dat}(hn:n'<=n)(h:∀i,i<n'->f' i=f i):(Root.ro n s f).Le (.ro n' s f'):=⟨rfl,hn,h⟩
theorem le_var{d d':Dat}(h:d'=d):(Root.var d).Le (.var d'):=h
theorem SlotsR.cons{τ:Nat->Nat}{n:Nat}{fr:Nat->Dat}{x:Nat}{v:Dat}{l:List (Nat×Dat)}(h1:renD τ v (fr x))(h2:Sc n v)(h3:SlotsR τ n fr l):SlotsR τ n fr ((x,v)::l):=⟨⟨h1,h2⟩,h3⟩
theorem addrAt0(i:Nat):addrAt 0 i=i:=rfl
theorem sc_p{n r o:Nat}{q:List Nat}(h:Nat.blt r n=true):Sc n (.p r q o):=by rw[Nat.blt_eq] at h;exact h
theorem sc_sl{n r a b c:Nat}(h:Nat.blt r n=true):Sc n (.sl r a b c):=by rw[Nat.blt_eq] at h;exact h
end
end Go.Proofs.YthjnmlpibafbnaaGreat.DM

namespace Go.Proofs.YthjnmlpibafbnaaGreat.DM
open Go.RowKit
section
variable {P:Program}{N K:Nat}{Q:Exit->St->Prop}{fr:Nat->Dat}{m:List Root}{R:Root}{n' s len:Nat}{g:Nat->Dat}
theorem Frm.same{n n':Nat}{ρ ρ':Rho}{N:Nat}{fr:Nat->Dat}{tmps:Array Value}(hn:n<=n')(hρ:∀r,r<n->ρ' r []=ρ r [])(h:Frm n ρ N fr tmps):Frm n' ρ' N fr tmps:=
 ⟨h.size,λ t=>by
  rcases h.slot t with h1|⟨h1,h2,h3⟩
  ·exact .inl h1
  ·exact .inr ⟨by rw[h1,enc_congr hρ _ h2],h2.mono hn,h3⟩⟩
theorem Rel.fold(k:Nat)(q:List Nat)(r e:Nat){ρ:Rho}{a:Act}{w:World}(hk:m[k]? =some R)(hm:R.mine=true)(hq:q≠[])(hn:R.navL q=some (.sl r 0 len s))(hok:FoldOK m k r e len n' s g)(h:Rel N K ρ ⟨fr,m⟩ a w):
  Rel N K (foldR ρ k q r) ⟨fr,foldM m k r e len s R q g⟩ a w/\TrK K ρ m w (foldR ρ k q r) (foldM m k r e len s R q g) w:=by
 obtain⟨hf,hdf,hr,hK⟩:=h
 obtain⟨h1,h2⟩:=hr.fold hk hm hq hn hok
 have h0:∀a,foldR ρ k q r a []=ρ a []:=λ a=>by unfold foldR;rw[strip_nil hq];split<;>rfl
 refine⟨⟨?_,hdf,h1,?_⟩,h2 K⟩
 ·exact Frm.same (by rw[foldM_len];exact Nat.le_refl _) (λ r _=>h0 r) hf
 ·show K<=List.length (foldM m k r e len s R q g)
  rw[foldM_len];exact hK
theorem WPL.fold(k:Nat)(q:List Nat)(r e:Nat){m':List Root}{ops:Array Oper}{c:List Oper}(hk:m[k]? =some R)(hm:R.mine=true)(hq:q≠[])(hn:R.navL q=some (.sl r 0 len s))(hok:FoldOK m k r e len n' s g)(hm':foldM m k r e len s R q g=m')(h:WPL P N K ops Q c ⟨fr,m'⟩):WPL P N K ops Q c ⟨fr,m⟩:=by
 subst hm'
 intro ρ a w hrel
 obtain⟨h1,h2⟩:=Rel.fold k q r e hk hm hq hn hok hrel
 exact wpList_mono (λ _ _ _ q=>Real.tr (s:=⟨fr,m⟩) (s1:=⟨fr,_⟩) h2 q) _ _ _ (h _ a w h1)
def Ghost(K:Nat)(s s':St):Prop:=∀(N:Nat) (ρ:Rho) (a:Act) (w:World),Rel N K ρ s a w->∃ρ',Rel N K ρ' s' a w/\TrK K ρ s.m w ρ' s'.m w
theorem Ghost.fold(k:Nat)(q:List Nat)(r e:Nat){m':List Root}(hk:m[k]? =some R)(hm:R.mine=true)(hq:q≠[])(hn:R.navL q=some (.sl r 0 len s))(hok:FoldOK m k r e len n' s g)(hm':foldM m k r e len s R q g=m'):Ghost K ⟨fr,m⟩ ⟨fr,m'⟩:=by
 subst hm'
 intro N ρ a w h
 obtain⟨h1,h2⟩:=Rel.fold k q r e hk hm hq hn hok h
 exact⟨_,h1,h2⟩
theorem Ghost.cut{k:Nat}(hk:K<=k)(τ:Nat->Nat)(l:List (Nat×Dat))(m':List Root)(ht:Taken τ k m m')(hl:SlotsR τ m'.length fr l):Ghost K ⟨fr,m⟩ ⟨lst l,m'⟩:=by
 intro N ρ a w h
 obtain⟨h1,h2⟩:=Rel.cut hk ht hl h
 exact⟨_,h1,h2⟩
theorem Taken.at{ρ:Rho}{w:World}(h:Rep ρ m w){r:Nat}{R0 R':Root}(hr:m[r]? =some R0)(hl:R0.Le R'):Taken (λ j=>j) m.length m (m.set r R') where
 get:=λ j X hj=>by
  rcases set_get hj with⟨rfl,rfl,_⟩|⟨_,h2⟩
  ·exact .inr ⟨R0,hr,hl,λ d hd=>(hl.wf hd (k:=m.length) (λ d0 hd0=>(h.wf _ R0 d0 hr hd0).1)).2 (λ d0 hd0=>(h.wf _ R0 d0 hr hd0).2)⟩
  ·exact .inr ⟨X,h2,Root.Le.refl X,λ d hd=>(h.wf j X d h2 hd).2⟩
 inj:=λ i j _ _ _ _ _ _ e=>e
 fix:=λ _ _=>rfl
 len:=by simp
theorem Rel.at{ρ:Rho}{a:Act}{w:World}(h:Rel N K ρ ⟨fr,m⟩ a w){r:Nat}{R0 R':Root}(hr:m[r]? =some R0)(hl:R0.Le R'):Rel N K ρ ⟨fr,m.set r R'⟩ a w/\TrK K ρ m w ρ (m.set r R') w:=by
 obtain⟨hf,hdf,hrep,hK⟩:=h
 have ht:=Taken.at hrep hr hl
 have h1:=hrep.taken ht
 refine⟨⟨Frm.same (by simp) (λ _ _=>rfl) hf,hdf,h1,by simpa using hK⟩,rfl,rfl,Nat.le_refl _,rfl,Nat.le_refl _,λ _ _=>rfl,λ _ _ _=>rfl,λ j X q g1 g2 g3=>.inr ?_,λ j X q g1 g2 g3=>.inr ?_⟩
 ·rcases ht.get j X g1 with rfl|⟨X0,h4,h5,_⟩
  ·cases g2
  ·exact⟨_,X0,q,h4,h5.mine g2,h5.atO g3,rfl⟩
 ·rcases ht.get j X g1 with rfl|⟨X0,h4,h5,_⟩
  ·exact absurd rfl g2.ne
  ·exact⟨_,X0,q,h4,h5.at g2,g3,rfl⟩
theorem Ghost.at{r:Nat}{R0 R':Root}(hr:m[r]? =some R0)(hl:R0.Le R'):Ghost K ⟨fr,m⟩ ⟨fr,m.set r R'⟩:=by
 intro N ρ a w h
 obtain⟨h1,h2⟩:=h.at hr hl
 exact⟨_,h1,h2⟩
theorem Ghost.trans{s1 s2 s3:St}(h:Ghost K s1 s2)(h':Ghost K s2 s3):Ghost K s1 s3:=by
 intro N ρ a w hr
 obtain⟨ρ1,h1,h2⟩:=h N ρ a w hr
 obtain⟨ρ2,h3,h4⟩:=h' N ρ1 a w h1
 exact⟨ρ2,h3,h2.trans h4⟩
theorem Ghost.foldRow(k:Nat)(q:List Nat)(r:Nat){m':List Root}{e0:TypeId}(hk:m[k]? =some R)(hrk:Nat.beq r k=false)(hm:R.mine=true)(hq:q≠[])(hn:R.navL q=some (.sl r 0 len s))(hr:m[r]? =some (.row e0 n' s g))(hlen:len<=n')(hno:∀j,j<len->NoOwn (g j))(hm':(m.set r (.ro n' s g)).set k (R.upd q (.ow 0 len s g))=m'):Ghost K ⟨fr,m⟩ ⟨fr,m'⟩:=by
 have hne:r≠k:=λ e=>by subst e;rw[show Nat.beq r r=true from Nat.beq_refl r] at hrk;cases hrk
 have hlt:r<m.length:=(List.getElem?_eq_some_iff.1 hr).1
 refine Ghost.trans (Ghost.at (r:=r) hr (R':=.ro n' s g) ⟨rfl,Nat.le_refl _,λ _ _=>rfl⟩) ?_
 refine Ghost.fold k q r 0 (R:=R) (n':=n') (g:=g) (by rw[List.getElem?_set_ne hne];exact hk) hm hq hn ⟨hlen,.inl ⟨rfl,by rw[List.getElem?_set_self hlt],hno⟩⟩ ?_
 rw[<-hm'];rfl
theorem Ghost.unfold(k:Nat)(q:List Nat){e:Nat}(hk:m[k]? =some R)(hm:R.mine=true)(hq:q≠[])(hn:R.navL q=some (.ow e len s g))(he:Nat.beq e 0=false):Ghost K ⟨fr,m⟩ ⟨fr,m.set k (R.upd q (.sl m.length 0 len s))++[.row e len s g]⟩:=by
 intro N ρ a w ⟨hf,hdf,hr,hK⟩
 have he':e≠0:=λ h=>by subst h;cases he
 obtain⟨h1,h2⟩:=hr.unfold hk hm hq hn he'
 refine⟨_,⟨?_,hdf,h1,?_⟩,h2 K hK⟩
 ·exact Frm.same (by simp) (λ r hr=>by rw[ext_ne ρ _ (by have:r<m.length:=hr;omega)]) hf
 ·have:K<=m.length:=hK
  simp;omega
theorem Ghost.take(k i:Nat){e e0 n t:Nat}{f:Nat->Dat}(hk:m[k]? =some (.row e0 n t f))(hi:i<n)(hf:f i=.ow e len s g)(he:Nat.beq e 0=false):Ghost K ⟨fr,m⟩ ⟨fr,m.set k (.row e0 n t (fup f i (.sl m.length 0 len s)))++[.row e len s g]⟩:=by
 have:=Ghost.unfold (K:=K) (fr:=fr) k [i] (R:=.row e0 n t f) (e:=e) (len:=len) (s:=s) (g:=g) hk rfl (by simp) (by simp only[Root.navL,if_pos hi,DM.navL,hf]) he
 exact this
theorem Ghost.give(k i r:Nat){e e0 n t:Nat}{f:Nat->Dat}(hk:m[k]? =some (.row e0 n t f))(hi:i<n)(hf:f i=.sl r 0 len s)(hrk:Nat.beq r k=false)(he:Nat.beq e 0=false)(hr:m[r]? =some (.row e n' s g))(hlen:len<=n'):Ghost K ⟨fr,m⟩ ⟨fr,(m.set r .dead).set k (.row e0 n t (fup f i (.ow e len s g)))⟩:=by
 have hne:r≠k:=λ e=>by subst e;rw[show Nat.beq r r=true from Nat.beq_refl r] at hrk;cases hrk
 have he':e≠0:=λ h=>by subst h;cases he
 refine Ghost.fold k [i] r e hk rfl (by simp) (by simp only[Root.navL,if_pos hi,DM.navL,hf]) ⟨hlen,.inr ⟨he',hne,hr⟩⟩ ?_
 unfold foldM
 cases e with
 |zero=>exact absurd rfl he'
 |succ e=>rfl
theorem apF_end(n:Nat)(f g:Nat->Dat):apF n f 0 g n=g 0:=by
 unfold apF
 rw[show Nat.blt n n=false from by cases hh:Nat.blt n n with|false=>rfl|true=>rw[Nat.blt_eq] at hh;omega]
 simp
theorem Ghost.foldLast(k r:Nat){e e0:TypeId}{n t:Nat}{f g0:Nat->Dat}(hk:m[k]? =some (.row e (n+1) t (apF n f 0 g0)))(hrk:Nat.beq r k=false)(hg:g0 0=.sl r 0 len s)(hr:m[r]? =some (.row e0 n' s g))(hlen:len<=n')(hno:∀j,j<len->NoOwn (g j)):Ghost K ⟨fr,m⟩ ⟨fr,(m.set r (.ro n' s g)).set k (.row e (n+1) t (fup (apF n f 0 g0) n (.ow 0 len s g)))⟩:=by
 refine Ghost.foldRow k [n] r hk hrk rfl (by simp) ?_ hr hlen hno rfl
 simp only[Root.navL,if_pos (Nat.lt_succ_self n),DM.navL,apF_end,hg]
theorem Ghost.giveLast(k r:Nat){e e0:TypeId}{n t:Nat}{f g0:Nat->Dat}(hk:m[k]? =some (.row e (n+1) t (apF n f 0 g0)))(hrk:Nat.beq r k=false)(he:Nat.beq e0 0=false)(hg:g0 0=.sl r 0 len s)(hr:m[r]? =some (.row e0 n' s g))(hlen:len<=n'):Ghost K ⟨fr,m⟩ ⟨fr,(m.set r .dead).set k (.row e (n+1) t (fup (apF n f 0 g0) n (.ow e0 len s g)))⟩:=
 Ghost.give k n r hk (by omega) (by rw[apF_end];exact hg) hrk he hr hlen
theorem WP.ghost{c:Code}{s s':St}(h:Ghost K s s')(k:WP P N K c Q s'):WP P N K c Q s:=by
 intro ρ a w hrel
 obtain⟨ρ',h1,h2⟩:=h N ρ a w hrel
 exact wp_mono (k _ a w h1) λ _ _ _ q=>Real.tr h2 q
theorem WPL.ghost{ops:Array Oper}{c:List Oper}{s s':St}(h:Ghost K s s')(k:WPL P N K ops Q c s'):WPL P N K ops Q c s:=by
 intro ρ a w hrel
 obtain⟨ρ',h1,h2⟩:=h N ρ a w hrel
 exact wpList_mono (λ _ _ _ q=>Real.tr h2 q) _ _ _ (k _ a w h1)
theorem renD_len{τ:Nat->Nat}{r a b b' c:Nat}{d:Dat}(h:b'=b)(k:renD τ (.sl r a b c) d):renD τ (.sl r a b' c) d:=h▸k
theorem renD_int{τ:Nat->Nat}{κ:IntKind}{x x':Int}{d:Dat}(h:x'=x)(k:renD τ (.i κ x) d):renD τ (.i κ x') d:=h▸k
def Gh(K:Nat)(I:St->Prop)(s:St):Prop:=∃s',Ghost K s s'/\I s'
theorem Gh.step{I:St->Prop}{s s':St}(h:Ghost K s s')(k:Gh K I s'):Gh K I s:=by
 obtain⟨s2,h1,h2⟩:=k
 exact⟨s2,h.trans h1,h2⟩
theorem WP.ghEnd{c:Code}{I:St->Prop}{s:St}(h:WP P N K c (Then (Gh K I) Q) s):WP P N K c (Then I Q) s:=by
 intro ρ a w hrel
 refine wp_mono (h ρ a w hrel) ?_
 rintro e a' w' ⟨ρ',s',h1,h2,h3⟩
 cases e with
 |normal=>
  obtain⟨s2,g1,g2⟩:=h3
  obtain⟨ρ2,k1,k2⟩:=g1 N ρ' a' w' h1
  exact⟨ρ2,s2,k1,h2.trans k2,g2⟩
 |_=>exact⟨ρ',s',h1,h2,h3⟩
structure Hd(X:Type) where
 C:X->Prop
 l:X->List (Nat×Dat)
 m:X->List Root
 μ:X->Nat
def Hd.at{X:Type}(H:Hd X)(x:X):St:=⟨lst (H.l x),H.m x⟩
def Again{X:Type}(K:Nat)(H:Hd X)(x:X):St->Prop:=Gh K λ s'=>∃x',H.C x'/\H.μ x'<H.μ x/\s'=H.at x'
theorem Again.step{X:Type}{H:Hd X}{x:X}{s s':St}(h:Ghost K s s')(k:Again K H x s'):Again K H x s:=Gh.step h k
theorem WP.loopH{c:Code}{X:Type}(H:Hd X)(x0:X){s0:St}(h0:H.C x0)(hs:Ghost K s0 (H.at x0))(round:∀x,H.C x->WP P N K c (Then (Again K H x) Q) (H.at x)):WP P N K (.loop c) Q s0:=by
 refine WP.ghost hs ?_
 refine WP.loop (λ n s'=>∃x,n=H.μ x/\H.C x/\s'=H.at x) (H.μ x0) ⟨x0,rfl,h0,rfl⟩ ?_
 rintro n s1 ⟨x,rfl,hC,rfl⟩
 refine(WP.ghEnd (round x hC)).mono ?_
 intro e s' h
 cases e with
 |normal=>
  obtain⟨x',hC',h1,h2⟩:=h
  exact⟨H.μ x',h1,x',rfl,hC',h2⟩
 |_=>exact h
theorem Again.next{X:Type}{H:Hd X}{x:X}(x':X){s:St}(hg:Ghost K s (H.at x'))(hC:H.C x')(hμ:H.μ x'<H.μ x):Again K H x s:=⟨_,hg,x',hC,hμ,rfl⟩
end
end Go.Proofs.YthjnmlpibafbnaaGreat.DM
namespace Go.Proofs.YthjnmlpibafbnaaGreat.DM
open Go.RowKit
set_option linter.unusedVariables false
def NoPan(Q:Exit->St->Prop):Exit->St->Prop:=λ e s=>(∀c,e≠.panic c)/\Q e s
theorem noPan{Q:Exit->St->Prop}{s:St}(h:Q .normal s):NoPan Q .normal s:=⟨λ c hc=>(by cases hc),h⟩
section
variable {P:Program}{N K:Nat}{Q:Exit->St->Prop}
theorem wpOp_mono2{ops:Array Oper}{Q Q':Exit->Act->World->Prop}(hq:∀e a w,Q e a w->Q' e a w){i:Nat}{K K':Act->World->Prop}(hk:∀a w,K a w->K' a w){a:Act}{w:World}(h:wpOp P ops Q i K a w):wpOp P ops Q' i K' a w:=by
 unfold wpOp at*
 split
 ·rename_i ho;rw[ho] at h;exact hk _ _ h
 ·rename_i o ho
  rw[ho] at h
  simp only at h
  split
  ·rename_i hw
   rw[if_pos hw] at h
   rcases h with h|⟨h,a',w',h'⟩
   ·exact .inl (upon_mono hk hq h)
   ·exact .inr ⟨h,a',w',hq _ _ _ h'⟩
  ·rename_i hw
   rw[if_neg hw] at h
   exact hk _ _ h
theorem wpAny_mono'{ops:Array Oper}{md:Region.Mode}{Q Q':Exit->Act->World->Prop}(hq:∀e a w,Q e a w->Q' e a w):∀(fuel:Nat) (listed:Array Bool) (a:Act) (w:World),wpAny P md ops Q fuel listed a w->wpAny P md ops Q' fuel listed a w
 |0,_,_,_,h=>⟨h.1,hq _ _ _ h.2⟩
 |fuel+1,listed,a,w,h=>⟨λ h0=>hq _ _ _ (h.1 h0),λ i hi=>wpOp_mono2 hq (λ a' w' h'=>wpAny_mono' hq fuel _ a' w' h') (h.2 i hi)⟩
end
end Go.Proofs.YthjnmlpibafbnaaGreat.DM
