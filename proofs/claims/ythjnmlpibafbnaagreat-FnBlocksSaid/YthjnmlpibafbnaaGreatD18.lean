import Derived.Test.YthjnmlpibafbnaaGreatD17
import Derived.OrdersHeld
import Derived.StillTail
namespace Go.Proofs.YthjnmlpibafbnaaGreat.DM
open Go.RowKit
set_option linter.unusedVariables false
set_option linter.unusedSimpArgs false
def wpAnyS(P:Program)(ops:Array Oper)(Q:Exit->Act->World->Prop)(n:Nat):Nat->Array Bool->Act->World->Prop
 |0,listed,a,w=>Region.ready .any ops listed=[]/\Q .normal a w
 |fuel+1,listed,a,w=>(Region.ready .any ops listed=[]->Q .normal a w)/\
  ∀i∈Region.ready .any ops listed,wpOp P ops Q i (λ a' w'=>(i<n->BelowD w.heap.size w w')/\wpAnyS P ops Q n fuel (listed.setIfInBounds i true) a' w') a w
theorem below_refl(w:World):BelowD w.heap.size w w:=⟨rfl,rfl,Nat.le_refl _,rfl,Nat.le_refl _,λ _ _=>rfl⟩
theorem below_step{w w1 w2:World}(h1:BelowD w.heap.size w w1)(h2:BelowD w1.heap.size w1 w2):BelowD w.heap.size w w2:=
 ⟨h2.os.trans h1.os,h2.tape.trans h1.tape,Nat.le_trans h1.drawn h2.drawn,h2.output.trans h1.output,Nat.le_trans h1.size h2.size,λ k hk=>(h2.block k (Nat.lt_of_lt_of_le hk h1.size)).trans (h1.block k hk)⟩
def Clo(ops:Array Oper)(listed:Array Bool):Prop:=listed.size=ops.size/\∀j oj,ops[j]? =some oj->listed.getD j false=true->∀e∈oj.after,Region.binds .any e=true->listed.getD e.on false=true
def regB(ops:Array Oper)(n:Nat):Bool:=Nat.beq n ops.size||(Region.sinkB .any ops n&&Region.chainB .any ops n)
def depsN(ops:Array Oper)(t:Nat):List Nat:=match ops[t]? with
 |some o=>depsOf o
 |none=>[]
def behB(ops:Array Oper):Nat->Nat->Nat->Bool
 |0,_,_=>false
 |f+1,t,i=>Region.waitsFor .any ops t i||(depsN ops t).any λ k=>behB ops f k i
def dirB(ops:Array Oper)(n i:Nat):Bool:=(List.range (ops.size-n)).all λ k=>behB ops 8 (n+k) i
section
variable {P:Program}{ops:Array Oper}{Q:Exit->Act->World->Prop}{n:Nat}
theorem wpAny_of_S:∀(fuel:Nat) (listed:Array Bool) (a:Act) (w:World),wpAnyS P ops Q n fuel listed a w->wpAny P .any ops Q fuel listed a w
 |0,_,_,_,h=>h
 |fuel+1,_,_,_,h=>⟨h.1,λ i hi=>wpOp_mono (λ a' w' h'=>wpAny_of_S fuel _ a' w' h'.2) (h.2 i hi)⟩
theorem wpAnyS_mono{Q':Exit->Act->World->Prop}(hq:∀e a w,Q e a w->Q' e a w):∀(fuel:Nat) (listed:Array Bool) (a:Act) (w:World),wpAnyS P ops Q n fuel listed a w->wpAnyS P ops Q' n fuel listed a w
 |0,_,_,_,h=>⟨h.1,hq _ _ _ h.2⟩
 |fuel+1,_,_,_,h=>⟨λ h0=>hq _ _ _ (h.1 h0),λ i hi=>wpOp_mono2 hq (λ a' w' h'=>⟨h'.1,wpAnyS_mono hq fuel _ a' w' h'.2⟩) (h.2 i hi)⟩
theorem Clo.ready{listed:Array Bool}(h:Clo ops listed){i:Nat}(hi:i∈Region.ready .any ops listed):Clo ops (listed.setIfInBounds i true):=by
 obtain⟨h0,o,ho,hall⟩:=mem_ready.1 hi
 refine⟨by simpa using h.1,λ j oj hj hl e he hb=>?_⟩
 by_cases hij:i=j
 ·subst hij
  rw[ho] at hj;cases hj
  exact getD_set_true (hall e he hb)
 ·rw[getD_set_ne false hij] at hl
  exact getD_set_true (h.2 j oj hj hl e he hb)
theorem regB_tail(h:regB ops n=true){listed:Array Bool}(hc:Clo ops listed){j:Nat}(hj:j∈Region.ready .any ops listed)(hn:n<=j):∀i,i<n->listed.getD i false=true:=by
 obtain⟨_,oj,hoj,hall⟩:=mem_ready.1 hj
 have hjs:j<ops.size:=(Array.getElem?_eq_some_iff.1 hoj).1
 simp only[regB,Bool.and_eq_true,Bool.or_eq_true] at h
 rcases h with h|⟨hs,hch⟩
 ·have:=Nat.eq_of_beq_eq_true h;omega
 --what j waits for is listed,and what that waits for
 have dep:∀k,Region.waitsFor .any ops j k=true->listed.getD k false=true:=by
  intro k hk
  obtain⟨o,ho,e,he,hb,rfl⟩:=Region.waitsFor_spec hk
  rw[hoj] at ho;cases ho
  exact hall e he hb
 have dep':∀t k,listed.getD t false=true->Region.waitsFor .any ops t k=true->listed.getD k false=true:=by
  intro t k ht hk
  obtain⟨o,ho,e,he,hb,rfl⟩:=Region.waitsFor_spec hk
  exact hc.2 t o ho ht e he hb
 --down the chain
 have down:∀d,n+d<=j->(n+d=j\/listed.getD (n+d) false=true)->n=j\/listed.getD n false=true:=by
  intro d
  induction d with
  |zero=>intro _ h;exact h
  |succ d ih=>
   intro hd h
   have hcd:Region.waitsFor .any ops (n+(d+1)) (n+(d+1)-1)=true:=by
    have:=List.all_eq_true.1 hch (n+(d+1)) (List.mem_range.2 (by omega))
    simp only[Bool.or_eq_true,decide_eq_true_eq] at this
    rcases this with h|h
    ·omega
    ·exact h
   rw[show n+(d+1)-1=n+d by omega] at hcd
   refine ih (by omega) (.inr ?_)
   rcases h with h|h
   ·rw[h] at hcd;exact dep _ hcd
   ·exact dep' _ _ h hcd
 have hn0:=down (j-n) (by omega) (.inl (by omega))
 --all of the head,downwards
 have key:∀d i,i+d=n->0<d->listed.getD i false=true:=by
  intro d
  induction d using Nat.strongRecOn with
  |_ d ih=>
   intro i hi hd
   have:=List.all_eq_true.1 hs i (List.mem_range.2 (by omega))
   obtain⟨k,hk,hkk⟩:=List.any_eq_true.1 this
   rw[List.mem_range] at hk
   simp only[Bool.and_eq_true,decide_eq_true_eq] at hkk
   by_cases hkn:k=n
   ·subst hkn
    rcases hn0 with e|e
    ·exact dep _ (by rw[<-e];exact hkk.2)
    ·exact dep' _ _ e hkk.2
   ·exact dep' k i (ih (n-k) (by omega) k (by omega) (by omega)) hkk.2
 intro i hi
 exact key (n-i) i (by omega) (by omega)
theorem depsL_in:∀{l:List Edge}{k:Nat},k∈depsL l->∃e∈l,Region.binds .any e=true/\e.on=k
 |[],k,h=>by simp[depsL] at h
 |e::l,k,h=>by
  simp only[depsL] at h
  cases hb:Region.binds .any e with
  |true=>
   rw[hb] at h
   simp only[cond_true,List.mem_cons] at h
   rcases h with rfl|h
   ·exact⟨e,by simp,hb,rfl⟩
   ·obtain⟨e',h1,h2⟩:=depsL_in h
    exact⟨e',by simp[h1],h2⟩
  |false=>
   rw[hb] at h
   obtain⟨e',h1,h2⟩:=depsL_in h
   exact⟨e',by simp[h1],h2⟩
theorem depsN_get{t k:Nat}(h:k∈depsN ops t):∃o,ops[t]? =some o/\∃e∈o.after,Region.binds .any e=true/\e.on=k:=by
 unfold depsN at h
 split at h
 ·rename_i o ho
  obtain⟨e,h1,h2⟩:=depsL_in h
  exact⟨o,ho,e,by simpa using h1,h2⟩
 ·simp at h
theorem beh_listed{listed:Array Bool}(hc:Clo ops listed){i:Nat}:∀{f t:Nat},behB ops f t i=true->listed.getD t false=true->listed.getD i false=true
 |0,t,h,_=>by cases h
 |f+1,t,h,hl=>by
  simp only[behB,Bool.or_eq_true,List.any_eq_true] at h
  rcases h with h|⟨k,hk,h⟩
  ·obtain⟨o,ho,e,he,hb,rfl⟩:=Region.waitsFor_spec h
   exact hc.2 t o ho hl e he hb
  ·obtain⟨o,ho,e,he,hb,rfl⟩:=depsN_get hk
   exact beh_listed hc h (hc.2 t o ho hl e he hb)
theorem tail_waits{i:Nat}(hin:i<n)(h:(regB ops n||dirB ops n i)=true){listed:Array Bool}(hc:Clo ops listed){j:Nat}(hj:j∈Region.ready .any ops listed)(hn:n<=j):listed.getD i false=true:=by
 rw[Bool.or_eq_true] at h
 rcases h with h|h
 ·exact regB_tail h hc hj hn i hin
 ·obtain⟨_,oj,hoj,hall⟩:=mem_ready.1 hj
  have hjs:j<ops.size:=(Array.getElem?_eq_some_iff.1 hoj).1
  have:=List.all_eq_true.1 h (j-n) (List.mem_range.2 (by omega))
  rw[show n+(j-n)=j by omega] at this
  have this:(Region.waitsFor .any ops j i||(depsN ops j).any λ k=>behB ops 7 k i)=true:=this
  simp only[Bool.or_eq_true,List.any_eq_true] at this
  rcases this with this|⟨k,hk,this⟩
  ·obtain⟨o,ho,e,he,hb,rfl⟩:=Region.waitsFor_spec this
   rw[hoj] at ho;cases ho
   exact hall e he hb
  ·obtain⟨o,ho,e,he,hb,rfl⟩:=depsN_get hk
   rw[hoj] at ho;cases ho
   exact beh_listed hc this (hall e he hb)
theorem wpAnyS_first{i:Nat}{oi:Oper}{v:Value}(hi:ops[i]? =some oi)(hin:i<n)(hns:Region.noSelect ops=true)(hreg:(regB ops n||dirB ops n i)=true)
  (hQ:∀c a w,Q (.panic c) (a.put oi.dst v) w->Q (.panic c) a w):
  ∀(fuel:Nat) (listed:Array Bool) (a:Act) (w:World),Clo ops listed->
   (∀j oj,ops[j]? =some oj->j≠i->listed.getD j true=false->(∀e∈oj.after,Region.binds .any e=true->e.on≠i)->oi.apart ops oj=true)->
   i∈Region.ready .any ops listed->YieldsIf P ops (BelowD w.heap.size w) oi v a->
   wpAnyS P ops Q n fuel (listed.setIfInBounds i true) (a.put oi.dst v) w->wpAnyS P ops Q n (fuel+1) listed a w:=by
 have hsel:=Region.noSelect_spec hns
 intro fuel
 induction fuel with
 |zero=>
  intro listed a w hclo _ hr hy H
  refine⟨λ h=>(by rw[h] at hr;cases hr),λ j hj=>?_⟩
  by_cases hji:j=i
  ·subst hji;exact hy.wpOp hi (below_refl w) ⟨λ _=>below_refl w,H⟩
  ·have:=ready_mono hj hji
   rw[H.1] at this
   cases this
 |succ fuel ih=>
  intro listed a w hclo hfree hr hy H
  refine⟨λ h=>(by rw[h] at hr;cases hr),λ j hj=>?_⟩
  by_cases hji:j=i
  ·subst hji;exact hy.wpOp hi (below_refl w) ⟨λ _=>below_refl w,H⟩
  ·have hjn:j<n:=by
    refine Classical.byContradiction λ hge=>?_
    have h1:=tail_waits hin hreg hclo hj (by omega)
    have h2:=(mem_ready.1 hr).1
    have:=getD_both h2
    rw[this] at h1;cases h1
   have h1:=H.2 j (ready_mono hj hji)
   obtain⟨hjun,oj,hoj,hall⟩:=mem_ready.1 hj
   have hnot:∀e∈oj.after,Region.binds .any e=true->e.on≠i:=λ e he hb heq=>by
    have h1:=hall e he hb
    rw[heq,getD_both (mem_ready.1 hr).1] at h1
    cases h1
   have h2:=wpOp_putIf hoj (hfree j oj hoj hji hjun hnot) (λ cs b=>hsel i oi cs b hi) (λ cs b=>hsel j oj cs b hoj) hQ hy h1
   have hfree':∀k ok,ops[k]? =some ok->k≠i->(listed.setIfInBounds j true).getD k true=false->
     (∀e∈ok.after,Region.binds .any e=true->e.on≠i)->oi.apart ops ok=true:=λ k ok hk hki hun hno=>by
    refine hfree k ok hk hki ?_ hno
    by_cases hjk:j=k
    ·subst hjk;exact hjun
    ·rw[getD_set_ne true hjk] at hun;exact hun
   refine wpOp_mono (λ a' w' h3=>⟨h3.2.1,ih (listed.setIfInBounds j true) a' w' (hclo.ready hj) hfree' (ready_mono hr (Ne.symm hji)) (h3.1.imp (λ h=>⟨h.1,λ w2 hb=>h.2 w2 (below_step (h3.2.1 hjn) hb)⟩) id) ?_⟩) h2
   rw[Array.setIfInBounds_comm _ _ hji]
   exact h3.2.2
theorem wpAnyS_firstW{i:Nat}{oi:Oper}{v:Value}(hi:ops[i]? =some oi)(hns:Region.noSelect ops=true)
  (hQ:∀c a w,Q (.panic c) (a.put oi.dst v) w->Q (.panic c) a w):
  ∀(fuel:Nat) (listed:Array Bool) (a:Act) (w:World),
   (∀j oj,ops[j]? =some oj->j≠i->listed.getD j true=false->(∀e∈oj.after,Region.binds .any e=true->e.on≠i)->oi.apart ops oj=true)->
   i∈Region.ready .any ops listed->YieldsIf P ops (λ _=>True) oi v a->
   wpAnyS P ops Q n fuel (listed.setIfInBounds i true) (a.put oi.dst v) w->wpAnyS P ops Q n (fuel+1) listed a w:=by
 have hsel:=Region.noSelect_spec hns
 intro fuel
 induction fuel with
 |zero=>
  intro listed a w _ hr hy H
  refine⟨λ h=>(by rw[h] at hr;cases hr),λ j hj=>?_⟩
  by_cases hji:j=i
  ·subst hji;exact hy.wpOp hi trivial ⟨λ _=>below_refl w,H⟩
  ·have:=ready_mono hj hji
   rw[H.1] at this
   cases this
 |succ fuel ih=>
  intro listed a w hfree hr hy H
  refine⟨λ h=>(by rw[h] at hr;cases hr),λ j hj=>?_⟩
  by_cases hji:j=i
  ·subst hji;exact hy.wpOp hi trivial ⟨λ _=>below_refl w,H⟩
  ·have h1:=H.2 j (ready_mono hj hji)
   obtain⟨hjun,oj,hoj,hall⟩:=mem_ready.1 hj
   have hnot:∀e∈oj.after,Region.binds .any e=true->e.on≠i:=λ e he hb heq=>by
    have h1:=hall e he hb
    rw[heq,getD_both (mem_ready.1 hr).1] at h1
    cases h1
   have h2:=wpOp_putIf hoj (hfree j oj hoj hji hjun hnot) (λ cs b=>hsel i oi cs b hi) (λ cs b=>hsel j oj cs b hoj) hQ hy h1
   have hfree':∀k ok,ops[k]? =some ok->k≠i->(listed.setIfInBounds j true).getD k true=false->
     (∀e∈ok.after,Region.binds .any e=true->e.on≠i)->oi.apart ops ok=true:=λ k ok hk hki hun hno=>by
    refine hfree k ok hk hki ?_ hno
    by_cases hjk:j=k
    ·subst hjk;exact hjun
    ·rw[getD_set_ne true hjk] at hun;exact hun
   refine wpOp_mono (λ a' w' h3=>⟨h3.2.1,ih (listed.setIfInBounds j true) a' w' hfree' (ready_mono hr (Ne.symm hji)) h3.1 ?_⟩) h2
   rw[Array.setIfInBounds_comm _ _ hji]
   exact h3.2.2
theorem wpAnyS_seq:∀(l:List Oper) (k:Nat) (listed:Array Bool) (a:Act) (w:World),n<=k->(∀j,l[j]? =ops[k+j]?)->Region.seqB .any ops l.length k listed=true->wpList P ops Q l a w->wpAnyS P ops Q n l.length listed a w
 |[],_,_,_,_,_,_,hB,h=>⟨by simpa[Region.seqB] using hB,h⟩
 |o::l,k,listed,a,w,hk,hl,hB,h=>by
  have h0:ops[k]? =some o:=by simpa using(hl 0).symm
  simp only[List.length_cons,Region.seqB,Bool.and_eq_true,decide_eq_true_eq] at hB
  refine⟨λ h1=>(by rw[hB.1] at h1;cases h1),λ i hi=>?_⟩
  rw[hB.1] at hi
  have hik:i=k:=by simpa using hi
  subst hik
  have hw:wpOp P ops Q i (wpList P ops Q l) a w:=by unfold wpOp;simp only[h0];exact h
  exact wpOp_mono (λ a' w' h'=>⟨λ h=>absurd h (by omega),wpAnyS_seq l (i+1) _ a' w' (by omega) (λ j=>by have:=hl (j+1);rw[show i+(j+1)=i+1+j by omega] at this;simpa using this) hB.2 h'⟩) hw
end
section
variable {P:Program}{T:TyEnv}{N K:Nat}{Q:Exit->St->Prop}{ops:Array Oper}{n:Nat}
def PostA(N K:Nat)(ρ:Rho)(s:St)(w:World)(Q:Exit->St->Prop):Exit->Act->World->Prop:=λ e a' w'=>(∀x,e≠.panic x)/\Real N K ρ s w Q e a' w'
def WA(P:Program)(N K:Nat)(ops:Array Oper)(Q:Exit->St->Prop)(n fuel:Nat)(listed:Array Bool)(s:St):Prop:=
 Region.noSelect ops=true->Clo ops listed->∀ρ a w,Rel N K ρ s a w->wpAnyS P ops (PostA N K ρ s w Q) n fuel listed a w
theorem PostA.tr{ρ ρ1:Rho}{s s1:St}{w w1:World}(h:TrK K ρ s.m w ρ1 s1.m w1):∀e a' w',PostA N K ρ1 s1 w1 Q e a' w'->PostA N K ρ s w Q e a' w':=λ _ _ _ q=>⟨q.1,q.2.tr h⟩
theorem WA.take{fuel:Nat}{listed:Array Bool}{i:Nat}{o:Oper}{fr:Nat->Dat}{m m':List Root}{v:Dat}(hi:ops[i]? =some o)(hin:i<n)(htl:(regB ops n||dirB ops n i)=true)(hf:Region.free .any ops listed i=true)(hr:(Region.ready .any ops listed).contains i=true)
  (hg:gd ops o fr=some true) (hd:dstOK N o.dst=true) (ho:QOK P o fr m v m') (k:WA P N K ops Q n fuel (listed.setIfInBounds i true) ⟨putO fr o.dst v,m'⟩):WA P N K ops Q n (fuel+1) listed ⟨fr,m⟩:=by
 intro hns hclo ρ a w ⟨hfr,hdf,hrep,hK⟩
 have hri:i∈Region.ready .any ops listed:=by simpa using hr
 obtain⟨u,ρ',h1,h2,h3⟩:=ho N ρ a hfr
 obtain⟨g1,g2,g3,g4⟩:=h3 w hrep
 refine wpAnyS_first hi hin hns htl (λ c a w q=>absurd rfl (q.1 c)) fuel listed a w hclo (Region.free_spec hi hf) hri (v:=u) (.inl ⟨gd_wanted hg hfr,λ w' hb=>(h3 w' (hrep.below hb)).1⟩) ?_
 exact wpAnyS_mono (PostA.tr (s:=⟨fr,m⟩) (s1:=⟨putO fr o.dst v,m'⟩) (g4.toK hK)) _ _ _ _ (k hns (hclo.ready hri) ρ' (a.put o.dst u) w ⟨(hfr.tr g4).putO hd g2,by rw[put_defers];exact hdf,g3,Nat.le_trans hK g4.len⟩)
theorem WA.skip{fuel:Nat}{listed:Array Bool}{i:Nat}{o:Oper}{fr:Nat->Dat}{m:List Root}(hi:ops[i]? =some o)(hf:Region.free .any ops listed i=true)(hr:(Region.ready .any ops listed).contains i=true)
  (hg:gd ops o fr=some false) (hd:dstOK N o.dst=true) (k:WA P N K ops Q n fuel (listed.setIfInBounds i true) ⟨putO fr o.dst .un,m⟩):WA P N K ops Q n (fuel+1) listed ⟨fr,m⟩:=by
 intro hns hclo ρ a w ⟨hfr,hdf,hrep,hK⟩
 have hri:i∈Region.ready .any ops listed:=by simpa using hr
 refine wpAnyS_firstW hi hns (λ c a w q=>absurd rfl (q.1 c)) fuel listed a w (Region.free_spec hi hf) hri (v:=undef) (.inr ⟨gd_wanted hg hfr,rfl⟩) ?_
 exact k hns (hclo.ready hri) ρ (a.put o.dst undef) w ⟨hfr.putO hd (.inl rfl),by rw[put_defers];exact hdf,hrep,hK⟩
theorem rep_dead(ρ:Rho)(n:Nat)(w:World):Rep ρ (List.replicate n .dead) w:=
 (rep0 ρ w).taken (τ:=λ r=>r) (k:=0) ⟨λ j R hj=>.inl (List.eq_of_mem_replicate (List.mem_of_getElem? hj)),λ i j R R' hi _ hm _ _=>(by
  rw[List.eq_of_mem_replicate (List.mem_of_getElem? hi)] at hm;cases hm),λ _ _=>rfl,Nat.zero_le _⟩
theorem WA.takeW{fuel:Nat}{listed:Array Bool}(i:Nat){o:Oper}{fr:Nat->Dat}{m:List Root}{v:Dat}(hi:ops[i]? =some o)(hf:Region.free .any ops listed i=true)(hr:(Region.ready .any ops listed).contains i=true)
  (hg:gd ops o fr=some true) (hd:dstOK N o.dst=true) (ho:∀m,QOK P o fr m v m) (k:WA P N K ops Q n fuel (listed.setIfInBounds i true) ⟨putO fr o.dst v,m⟩):WA P N K ops Q n (fuel+1) listed ⟨fr,m⟩:=by
 intro hns hclo ρ a w ⟨hfr,hdf,hrep,hK⟩
 have hri:i∈Region.ready .any ops listed:=by simpa using hr
 obtain⟨u,ρ',h1,h2,h3⟩:=ho (List.replicate m.length .dead) N ρ a (by simpa using hfr)
 have g:=h3 w (rep_dead _ _ _)
 have hu:Holds m.length ρ v u:=by
  have:=g.2.1
  simp only[List.length_replicate] at this h1
  rcases this with h|⟨h4,h5,h6⟩
  ·exact .inl h
  ·exact .inr ⟨by rw[h4];exact enc_congr h1 v h5,h5,h6⟩
 refine wpAnyS_firstW hi hns (λ c a w q=>absurd rfl (q.1 c)) fuel listed a w (Region.free_spec hi hf) hri (v:=u) (.inl ⟨gd_wanted hg hfr,λ w' _=>(h3 w' (rep_dead _ _ _)).1⟩) ?_
 exact k hns (hclo.ready hri) ρ (a.put o.dst u) w ⟨hfr.putO hd hu,by rw[put_defers];exact hdf,hrep,hK⟩
theorem WA.move{fuel:Nat}{listed:Array Bool}(i:Nat){o:Oper}{fr:Nat->Dat}{m:List Root}{x:Operand}(hi:ops[i]? =some o)(ho:o.op=.move x\/o.op=.assign x)(hf:Region.free .any ops listed i=true)(hr:(Region.ready .any ops listed).contains i=true)
  (hg:gd ops o fr=some true) (hd:dstOK N o.dst=true) (k:WA P N K ops Q n fuel (listed.setIfInBounds i true) ⟨putO fr o.dst (ev fr x),m⟩):WA P N K ops Q n (fuel+1) listed ⟨fr,m⟩:=
 WA.takeW i hi hf hr hg hd (λ m=>ok_move ho) k
def takesB(ops:Array Oper)(n:Nat):List Nat->Array Bool->Bool
 |[],_=>true
 |i::is,listed=>(Nat.blt i n&&(regB ops n||dirB ops n i))&&(Region.free .any ops listed i&&((Region.ready .any ops listed).contains i&&takesB ops n is (listed.setIfInBounds i true)))
def takesL:List Nat->Array Bool->Array Bool
 |[],listed=>listed
 |i::is,listed=>takesL is (listed.setIfInBounds i true)
def pickO(ops:Array Oper):List Nat->List Oper
 |[]=>[]
 |i::is=>match ops[i]? with
  |some o=>o::pickO ops is
  |none=>pickO ops is
theorem WA.takes'(hT:TOK P T){wm:Bool}{fuel:Nat}:∀{is:List Nat}{listed:Array Bool}{fr:Nat->Dat}{m:List Root}{ps:List Prop}{s':St},takesB ops n is listed=true->allQ (pickO ops is)=true->evalOps T wm N ops (pickO ops is) fr m=some (ps,s')->AllP ps->
  WA P N K ops Q n fuel (takesL is listed) s'->WA P N K ops Q n (fuel+is.length) listed ⟨fr,m⟩
 |[],listed,fr,m,ps,s',_,_,h,_,hk=>by
  simp only[pickO,evalOps,Option.some.injEq,Prod.mk.injEq] at h
  obtain⟨_,rfl⟩:=h
  exact hk
 |i::is,listed,fr,m,ps,s',hB,hq,h,hp,hk=>by
  simp only[takesB,Bool.and_eq_true,Nat.blt_eq] at hB
  obtain⟨⟨b1,b0⟩,b2,b3,b4⟩:=hB
  have hri:i∈Region.ready .any ops listed:=by simpa using b3
  obtain⟨_,o,ho,_⟩:=mem_ready.1 hri
  simp only[pickO,ho] at hq h
  simp only[allQ] at hq
  cases hq1:isQ o.op with
  |false=>rw[hq1] at hq;cases hq
  |true=>
  rw[hq1] at hq
  simp only[evalOps] at h
  rw[show fuel+(i::is).length=(fuel+is.length)+1 by simp only[List.length_cons];omega]
  split at h
  ·rename_i hg
   cases hd:dstOK N o.dst with
   |false=>rw[hd] at h;cases h
   |true=>
    rw[hd] at h
    simp only[cond_true] at h
    split at h
    ·rename_i ps1 v m1 he
     split at h
     ·rename_i qs s1 hr
      simp only[Option.some.injEq,Prod.mk.injEq] at h
      obtain⟨rfl,rfl⟩:=h
      obtain⟨hp1,hp2⟩:=hp.app
      exact WA.take ho b1 b0 b2 b3 hg hd (evalOp_q hT hq1 he hp1) (WA.takes' hT b4 hq hr hp2 hk)
     ·cases h
    ·cases h
  ·rename_i hg
   cases hd:dstOK N o.dst with
   |false=>rw[hd] at h;cases h
   |true=>
    rw[hd] at h
    exact WA.skip ho b2 b3 hg hd (WA.takes' hT b4 hq h hp hk)
  ·cases h
def pickI:List Nat->Nat->List Oper->List Oper
 |_,_,[]=>[]
 |[],_,_::_=>[]
 |i::is,j,o::l=>bif Nat.beq i j then o::pickI is (j+1) l else pickI (i::is) (j+1) l
def incr:List Nat->Nat->Bool
 |[],_=>true
 |i::is,j=>Nat.ble j i&&incr is (i+1)
theorem pickI_eq(ops:Array Oper):∀(l:List Oper) (is:List Nat) (j:Nat),(∀k,l[k]? =ops[j+k]?)->incr is j=true->pickI is j l=pickO ops is
 |[],is,j,hl,hi=>by
  have none_:∀k,j<=k->ops[k]? =none:=λ k hk=>by
   have:=hl (k-j)
   rw[show j+(k-j)=k by omega] at this
   rw[<-this];simp
  have:∀(is:List Nat) (k:Nat),j<=k->incr is k=true->pickO ops is=[]:=by
   intro is
   induction is with
   |nil=>intro _ _ _;rfl
   |cons i is ih=>
    intro k hk h
    simp only[incr,Bool.and_eq_true] at h
    have h1:=Nat.le_of_ble_eq_true h.1
    simp only[pickO,none_ i (by omega)]
    exact ih (i+1) (by omega) h.2
  rw[this is j (Nat.le_refl _) hi]
  cases is<;>rfl
 |o::l,[],j,_,_=>rfl
 |o::l,i::is,j,hl,hi=>by
  simp only[incr,Bool.and_eq_true] at hi
  have h1:=Nat.le_of_ble_eq_true hi.1
  have hl':∀k,l[k]? =ops[(j+1)+k]? :=λ k=>by
   have:=hl (k+1)
   rw[show j+1+k=j+(k+1) by omega]
   simpa using this
  simp only[pickI]
  by_cases e:i=j
  ·subst e
   have ho:ops[i]? =some o:=by have:=hl 0;simpa using this.symm
   rw[show Nat.beq i i=true from Nat.beq_refl i]
   simp only[cond_true,pickO,ho]
   rw[pickI_eq ops l is (i+1) hl' hi.2]
  ·rw[show Nat.beq i j=false from by cases h:Nat.beq i j with|false=>rfl|true=>exact absurd (Nat.eq_of_beq_eq_true h) e]
   simp only[cond_false]
   exact pickI_eq ops l (i::is) (j+1) hl' (by simp only[incr,Bool.and_eq_true];exact⟨Nat.ble_eq_true_of_le (by omega),hi.2⟩)
theorem WA.takes(T:TyEnv)(wm:Bool)(hT:TOK P T)(is:List Nat){fuel f':Nat}{listed listed':Array Bool}{fr fr':Nat->Dat}{m m':List Root}{ps:List Prop}{l:List Oper}(hB:takesB l.toArray n is listed=true)(hI:incr is 0=true)(hq:allQ (pickI is 0 l)=true)(h:evF T wm N l.toArray (pickI is 0 l) fr m []=some (ps,⟨fr',m'⟩))(hp:AllP ps)
  (hl:takesL is listed=listed') (hf:Nat.beq (f'+is.length) fuel=true) (k:WA P N K l.toArray Q n f' listed' ⟨fr',m'⟩):WA P N K l.toArray Q n fuel listed ⟨fr,m⟩:=by
 subst hl
 rw[<-Nat.eq_of_beq_eq_true hf]
 rw[pickI_eq l.toArray l is 0 (λ k=>by simp) hI] at hq h
 exact WA.takes' hT hB hq (evF_nil h) hp k
def MK(P:Program)(o:Oper)(fr:Nat->Dat)(m:List Root)(v:Dat)(m':List Root):Prop:=
 ∀(N:Nat) (ρ:Rho) (a:Act) (w:World),Frm m.length ρ N fr a.tmps->Rep ρ m w->∀(Kc:Act->World->Prop) (Q':Exit->Act->World->Prop),
  (∀ρ' u w',Holds m'.length ρ' v u->Rep ρ' m' w'->Tr ρ m w ρ' m' w'->BelowD w.heap.size w w'->Kc (a.put o.dst u) w')->o.wp P a w Kc Q'
theorem MK.of(hT:TOK P T){wm:Bool}{o:Oper}{fr:Nat->Dat}{m m' m2:List Root}{v v2:Dat}{ps ps2:List Prop}(h:evalOp T wm o.op fr m=some (ps,v,m'))(hp:AllP ps)(h2:evalOp T wm o.op fr (m.map λ _=>.dead)=some (ps2,v2,m2))(hp2:AllP ps2):MK P o fr m v m':=by
 intro N ρ a w hf hr Kc Q' hK
 obtain⟨ρ1,w1,nx1,g1,g2,g3,g4⟩:=evalOp_ok hT h hp N ρ a w hf hr
 have hr0:Rep ρ (m.map λ _=>Root.dead) w:=hr.forgot (by simp) λ j R hj=>by
  rw[List.getElem?_map] at hj
  cases hm:m[j]? with
  |none=>rw[hm] at hj;cases hj
  |some x=>rw[hm] at hj;exact .inl (by simpa using hj.symm)
 obtain⟨ρ2,w2,nx2,k1,_,_,k4⟩:=evalOp_ok hT h2 hp2 N ρ a w (by simpa using hf) hr0
 have hb2:BelowD w.heap.size w w2:=k4.below λ r R hj=>by
  rw[List.getElem?_map] at hj
  cases hm:m[r]? with
  |none=>rw[hm] at hj;cases hj
  |some x=>rw[hm] at hj;simp only[Option.map_some,Option.some.injEq] at hj;subst hj;rfl
 rw[g1] at k1
 simp only[Result.ok.injEq] at k1
 have hw:w1=w2:=k1.2
 have hb:BelowD w.heap.size w w1:=by rw[hw];exact hb2
 unfold Oper.wp
 rw[g1]
 rcases g2 with⟨u,rfl,hu⟩|⟨rfl,rfl⟩
 ·exact hK ρ1 u w1 hu g3 g4 hb
 ·exact hK ρ1 undef w1 (.inl rfl) g3 g4 hb
theorem MK.call{dst:Tmp}{args:List Operand}{tys:Array TypeId}{t:TypeId}{pos:String}{after:Array Edge}{gg:Option (Nat×Bool)}{f:FuncId}{xs:List Dat}{fr:Nat->Dat}{m m0 m1:List Root}(ts:List Nat){r0:Dat}(r':Dat)(h:FnS P f xs m0 λ r m'=>r=r0/\m'=m1)
  (hl:LeAll 0 m ts m0) (hn:noMine m0=true) (ho:sameKind m ts m0=true\/OwnNew m0.length m1) (hdi:distinct ts=true) (hx:ArgsR (tauOf ts) fr xs args) (hsc:∀x∈xs,Sc m0.length x)
  (hc:AllC0 m1) (hr:renD (invT ts m.length) r0 r') (hs:Sc (putBack m ts m0 m1).length r') {mm:List Root}(hm:putBack m ts m0 m1=mm):
  MK P { dst:=some dst,op:=.call { callee:=.value (.func f),args:=args.toArray,argTypes:=tys },type:=t,pos:=pos,after:=after,guard:=gg } fr m r' mm:=by
 subst hm
 intro N ρ a w hfr hrep Kc Q' hK
 obtain⟨h1,h2⟩:=hx.eval hfr
 have h0:a.eval (.func f)=.func (.func f) #[] #[]:=rfl
 unfold Oper.wp
 rw[call_run rfl h0 (FnS.enter h)]
 simp only[Oper.upon]
 rw[show args.toArray.map a.eval=(xs.map (enc λ r=>ρ (tauOf ts r))).toArray by rw[<-h1];simp]
 refine(FnS.calls h _ w (hrep.taken (Taken.view ts hl (by rw[hdi];simp))) (λ x hx=>⟨hsc x hx,h2 x hx⟩)).mono ?_
 rintro e w' ⟨r,ρ1,m1',rfl,h3,h4,h5,h6,rfl,rfl⟩
 obtain⟨g1,g2,g3⟩:=hrep.call ts hl (ho.imp id λ h=>⟨hn,h⟩) hdi h5 h6 hc.get
 refine hK _ _ w' (.inr ⟨?_,hs,renD_ok' hr h4⟩) g1 g2 (h6.below λ r R h=>noMine_get hn h)
 rw[renD_enc hr]
 exact(enc_congr (n:=m1'.length) (λ j hj=>g3 j hj) r h3).symm
theorem MK.callP{dst:Tmp}{args:List Operand}{tys:Array TypeId}{t:TypeId}{pos:String}{after:Array Edge}{gg:Option (Nat×Bool)}{f:FuncId}{xs:List Dat}{r:Dat}{fr:Nat->Dat}{m:List Root}(h:FnP P f xs r)(hx:args.map (ev fr)=xs)(hsc:∀x∈xs,Sc 0 x/\x≠.un):
  MK P { dst:=some dst,op:=.call { callee:=.value (.func f),args:=args.toArray,argTypes:=tys },type:=t,pos:=pos,after:=after,guard:=gg } fr m r m:=by
 intro N ρ a w hfr hrep Kc Q' hK
 obtain⟨h1,h2⟩:=args_eval hfr hx λ x hx=>(hsc x hx).2
 have h0:a.eval (.func f)=.func (.func f) #[] #[]:=rfl
 unfold Oper.wp
 rw[call_run rfl h0 (FnS.enter h)]
 simp only[Oper.upon]
 rw[show args.toArray.map a.eval=(xs.map (enc ρ)).toArray by rw[<-h1];simp]
 refine(h.calls ρ w (λ x hx=>⟨(hsc x hx).1,(h2 x hx).2⟩)).mono ?_
 rintro e w' ⟨rfl,h3,h4,h5⟩
 exact hK ρ _ w' (.inr ⟨rfl,h3.mono (Nat.zero_le _),h4⟩) (hrep.below h5) (Tr.of_below h5) h5
theorem MK.q{o:Oper}{fr:Nat->Dat}{m m':List Root}{v:Dat}(h:QOK P o fr m v m'):MK P o fr m v m':=by
 intro N ρ a w hfr hrep Kc Q' hK
 obtain⟨u,ρ',h1,h2,h3⟩:=h N ρ a hfr
 obtain⟨g1,g2,g3,g4⟩:=h3 w hrep
 unfold Oper.wp
 rw[g1]
 exact hK ρ' u w g2 g3 g4 (below_refl w)
theorem MK.ofQC{o:Oper}{fr:Nat->Dat}{m:List Root}{v:Dat}(h:QC P o fr m v):MK P o fr m v m:=by
 intro N ρ a w hfr hrep Kc Q' hK
 exact h N ρ a w hfr hrep Kc Q' λ u w' hu hb=>hK ρ u w' hu (hrep.below hb) (Tr.of_below hb) hb
def WA1(P:Program)(N K:Nat)(ops:Array Oper)(Q:Exit->St->Prop)(n fuel:Nat)(listed:Array Bool)(fr:Nat->Dat)(m:List Root)(i:Nat):Prop:=
 ∃o v m',ops[i]? =some o/\gd ops o fr=some true/\dstOK N o.dst=true/\MK P o fr m v m'/\WA P N K ops Q n fuel (listed.setIfInBounds i true) ⟨putO fr o.dst v,m'⟩
theorem WA.all{fuel:Nat}{listed:Array Bool}{fr:Nat->Dat}{m:List Root}(rs:List Nat)(hr:Region.ready .any ops listed=rs)(hne:rs≠[])(h:∀i∈rs,WA1 P N K ops Q n fuel listed fr m i):WA P N K ops Q n (fuel+1) listed ⟨fr,m⟩:=by
 intro hns hclo ρ a w ⟨hfr,hdf,hrep,hK⟩
 refine⟨λ h0=>absurd (hr▸h0) hne,λ i hi=>?_⟩
 obtain⟨o,v,m',ho,hg,hd,hmk,k⟩:=h i (hr▸hi)
 unfold wpOp
 simp only[ho]
 rw[if_pos (gd_wanted hg hfr)]
 refine .inl (hmk N ρ a w hfr hrep _ _ λ ρ' u w' hu hr' htr hb=>⟨λ _=>hb,?_⟩)
 have hreg':=k hns (hclo.ready hi) ρ' (a.put o.dst u) w' ⟨(hfr.tr htr).putO hd hu,by rw[put_defers];exact hdf,hr',Nat.le_trans hK htr.len⟩
 exact wpAnyS_mono (PostA.tr (s:=⟨fr,m⟩) (s1:=⟨putO fr o.dst v,m'⟩) (htr.toK hK)) _ _ _ _ hreg'
theorem WA.tail{fuel:Nat}{listed:Array Bool}{s:St}{l:List Oper}(hl:ops.toList.drop n=l)(hf:Nat.beq l.length fuel=true)(hseq:Region.seqB .any ops fuel n listed=true)(k:WPL P N K ops (NoPan Q) l s):WA P N K ops Q n fuel listed s:=by
 intro hns hclo ρ a w hrel
 have:=Nat.eq_of_beq_eq_true hf
 subst this
 refine wpAnyS_seq l n listed a w (Nat.le_refl _) (λ j=>?_) hseq (wpList_mono ?_ _ _ _ (k ρ a w hrel))
 ·rw[<-hl,List.getElem?_drop];simp
 ·rintro e a' w' ⟨ρ',s',h1,h2,h3⟩
  exact⟨h3.1,ρ',s',h1,h2,h3.2⟩
theorem WA.cut(τ:Nat->Nat)(k:Nat){fuel:Nat}{listed:Array Bool}{fr:Nat->Dat}{m:List Root}(l:List (Nat×Dat))(m':List Root)(hk:K<=k)(ht:Taken τ k m m')(hl:SlotsR τ m'.length fr l)(h:WA P N K ops Q n fuel listed ⟨lst l,m'⟩):WA P N K ops Q n fuel listed ⟨fr,m⟩:=by
 intro hns hclo ρ a w hrel
 obtain⟨h1,h2⟩:=Rel.cut hk ht hl hrel
 exact wpAnyS_mono (PostA.tr (s:=⟨fr,m⟩) (s1:=⟨lst l,m'⟩) h2) _ _ _ _ (h hns hclo _ a w h1)
theorem WA.as{fuel:Nat}{l0 listed:Array Bool}{s:St}(e:listed=l0)(k:WA P N K ops Q n fuel l0 s):WA P N K ops Q n fuel listed s:=e▸k
theorem WP.da(hm:P.follows .mixedOrders=true){id:Nat}{l:List Oper}{s:St}(n:Nat)(hns:Region.noSelect l.toArray=true)(h:WA P N K l.toArray Q n l.length (Array.replicate l.length false) s):WP P N K (.region id l.toArray true) Q s:=by
 intro ρ a w hrel
 refine wp_region_any hm ?_
 have hb:BelowD w.heap.size w { w with drawn:=w.drawn+1 }:=⟨rfl,rfl,by first|exact Nat.le_succ _|exact Nat.le_refl _,rfl,Nat.le_refl _,λ _ _=>rfl⟩
 have hclo:Clo l.toArray (Array.replicate l.length false):=⟨by simp,λ j oj _ hl=>by rw[getD_replicate_false] at hl;cases hl⟩
 have hrel':Rel N K ρ s a { w with drawn:=w.drawn+1 }:=⟨hrel.1,hrel.2.1,hrel.2.2.1.below hb,hrel.2.2.2⟩
 have h1:=wpAny_of_S _ _ _ _ (h hns hclo ρ a _ hrel')
 rw[show l.toArray.size=l.length by simp]
 refine wpAny_mono' ?_ _ _ _ _ h1
 rintro e a' w' ⟨_,q⟩
 exact Real.tr (s:=s) (s1:=s) ((Tr.of_below hb).toK hrel.2.2.2) q
end
end Go.Proofs.YthjnmlpibafbnaaGreat.DM
