import Derived.Below
import Derived.Tactics
import Derived.Deep.Quiet
import Derived.Laws.MakeOwn
import Derived.Deep.LoopGhost
namespace Go.Proofs.YthjnmlpibafbnaaGreat.DM
open Go.RowKit
structure RV where
 nil:Bool
 b:Nat
 o:Nat
 cap:Nat
 na:Option Addr
 nc:Nat
 deriving Inhabited
def RV.slice(v:RV)(off len s:Nat):Value:=
 match v.nil with
 |true=>match v.na with
  |none=>.slice none 0 0
  |some a=>.slice (some a) 0 v.nc
 |false=>.slice (some ⟨v.b,v.o+off*s,none⟩) len (v.cap-off)
abbrev Rho:=Nat->List Nat->RV
inductive Dat where
 |b (x:Bool)
 |i (k:IntKind) (x:Int)
 |s (x:ByteArray)
 |p (r:Nat) (path:List Nat) (o:Nat)
 |np
 |sl (r off len sz:Nat)
 |ns
 |ar (n s:Nat) (f:Nat->Dat)
 |st (n:Nat) (f:Nat->Dat)
 |ow (e:TypeId) (n s:Nat) (f:Nat->Dat)
 |tup (n:Nat) (f:Nat->Dat)
 |fn (g:FuncId) (n:Nat) (f:Nat->Dat)
 |mv (b:Nat)
 |sa (v:RV) (off len sz:Nat)
 |un
def sumN:Nat->(Nat->Nat)->Nat
 |0,_=>0
 |n+1,f=>sumN n f+f n
def sz:Dat->Nat
 | .ar n s _=>n*s
 | .st n f=>sumN n (λ i=>sz (f i))
 |_=>1
def leaf(ρ:Rho)(A:List Nat->RV):Dat->Value
 | .b x=>.bool x
 | .i k x=>.int k x
 | .s x=>.string x
 | .p r _ o=>.pointer (some ⟨(ρ r []).b,(ρ r []).o+o,none⟩)
 | .np=>.pointer none
 | .sl r off len s=>(ρ r []).slice off len s
 | .ns=>.slice none 0 0
 | .mv b=>.map (some b)
 | .sa v off len s=>v.slice off len s
 | .ow _ n s _=>(A []).slice 0 n s
 | .fn g n f=>.func (.func g) #[] ((List.range n).map (λ i=>leaf ρ (λ _=>default) (f i))).toArray
 |_=>undef
def cells(ρ:Rho)(A:List Nat->RV):Dat->List Value
 | .ar n _ f=>(List.range n).flatMap λ i=>cells ρ (λ q=>A (i::q)) (f i)
 | .st n f=>(List.range n).flatMap λ i=>cells ρ (λ q=>A (i::q)) (f i)
 |d=>[leaf ρ A d]
def noA:List Nat->RV:=λ _=>default
def enc(ρ:Rho):Dat->Value
 | .ar n s f=>.agg (cells ρ noA (.ar n s f)).toArray
 | .st n f=>.agg (cells ρ noA (.st n f)).toArray
 | .tup n f=>.tuple ((List.range n).map (λ i=>enc ρ (f i))).toArray
 |d=>leaf ρ noA d
def WF:Dat->Prop
 | .ar n s f=>∀i,i<n->sz (f i)=s/\WF (f i)
 | .st n f=>∀i,i<n->WF (f i)
 | .ow _ n s f=>∀i,i<n->sz (f i)=s/\WF (f i)
 | .tup _ _=>False
 | .un=>False
 |_=>True
def Sc(n:Nat):Dat->Prop
 | .p r _ _=>r<n
 | .sl r _ _ _=>r<n
 | .ar k _ f=>∀i,i<k->Sc n (f i)
 | .st k f=>∀i,i<k->Sc n (f i)
 | .ow _ k _ f=>∀i,i<k->Sc n (f i)
 | .tup k f=>∀i,i<k->Sc n (f i)
 | .fn _ k f=>∀i,i<k->Sc n (f i)
 |_=>True
def Pl:Dat->Prop
 | .ar k _ f=>∀i,i<k->Pl (f i)
 | .st k f=>∀i,i<k->Pl (f i)
 | .ow _ _ _ _=>False
 | .tup _ _=>False
 | .un=>False
 |_=>True
def Ok:Dat->Prop
 | .tup n f=>∀i,i<n->Ok (f i)
 |d=>WF d/\Pl d
def nav(d:Dat)(q:List Nat):Option Dat:=match q with
 |[]=>some d
 |i::q=>match d with
  | .ar n _ f=>if i<n then nav (f i) q else none
  | .st n f=>if i<n then nav (f i) q else none
  | .ow _ n _ f=>if i<n then nav (f i) q else none
  |_=>none
termination_by structural q
def navL(d:Dat)(q:List Nat):Option Dat:=match q with
 |[]=>some d
 |i::q=>match d with
  | .ar n _ f=>if i<n then navL (f i) q else none
  | .st n f=>if i<n then navL (f i) q else none
  |_=>none
termination_by structural q
def offs(d:Dat)(q:List Nat):Nat:=match q with
 |[]=>0
 |i::q=>match d with
  | .ar _ s f=>i*s+offs (f i) q
  | .st _ f=>sumN i (λ j=>sz (f j))+offs (f i) q
  |_=>0
termination_by structural q
def fup(f:Nat->Dat)(i:Nat)(v:Dat)(j:Nat):Dat:=bif Nat.beq j i then v else f j
def upd(d:Dat)(q:List Nat)(v:Dat):Dat:=match q with
 |[]=>v
 |i::q=>match d with
  | .ar n s f=>.ar n s (fup f i (upd (f i) q v))
  | .st n f=>.st n (fup f i (upd (f i) q v))
  |d=>d
termination_by structural q
theorem fup_same(f:Nat->Dat)(i:Nat)(v:Dat):fup f i v i=v:=by simp[fup]
theorem fup_ne(f:Nat->Dat){i j:Nat}(v:Dat)(h:j≠i):fup f i v j=f j:=by
 unfold fup;rw[show Nat.beq j i=false from by cases e:Nat.beq j i with|false=>rfl|true=>exact absurd (Nat.eq_of_beq_eq_true e) h];rfl
theorem sumN_congr{f g:Nat->Nat}:∀{n:Nat},(∀i,i<n->f i=g i)->sumN n f=sumN n g
 |0,_=>rfl
 |n+1,h=>by
  simp only[sumN]
  rw[sumN_congr (λ i hi=>h i (by omega)),h n (by omega)]
theorem sumN_const{f:Nat->Nat}{s:Nat}:∀{n:Nat},(∀i,i<n->f i=s)->sumN n f=n*s
 |0,_=>by simp[sumN]
 |n+1,h=>by
  simp only[sumN]
  rw[sumN_const (λ i hi=>h i (by omega)),h n (by omega),Nat.succ_mul]
section
variable (ρ:Rho)
theorem range_split{n i:Nat}(h:i<n)(g:Nat->List Value):
  (List.range n).flatMap g=(List.range i).flatMap g++g i++((List.range (n-i-1)).flatMap λ j=>g (i+1+j)):=by
 have e:List.range n=List.range i++[i]++(List.range (n-i-1)).map (i+1+·):=by
  apply List.ext_getElem
  ·simp;omega
  ·intro k h1 h2
   simp only[List.getElem_range,List.append_assoc,List.getElem_append,List.length_range,List.getElem_map,List.getElem_cons,List.length_cons,List.length_nil]
   simp at h1
   by_cases hk:k<i
   ·simp[hk]
   ·by_cases hk2:k=i
    ·simp[hk2]
    ·simp[hk,show¬(k-i=0) by omega];omega
 rw[e]
 simp[List.flatMap_append,List.flatMap_map]
theorem flatMap_congr{l:List Nat}{f g:Nat->List Value}(h:∀i∈l,f i=g i):l.flatMap f=l.flatMap g:=by
 simp only[List.flatMap_def]
 rw[List.map_congr_left h]
theorem flat_length{g:Nat->List Value}:∀(n:Nat),((List.range n).flatMap g).length=sumN n (λ i=>(g i).length)
 |0=>by simp[sumN]
 |n+1=>by rw[List.range_succ,List.flatMap_append,List.length_append,flat_length n];simp[sumN]
theorem cells_length:∀(d:Dat) (A:List Nat->RV),WF d->(cells ρ A d).length=sz d:=by
 intro d
 induction d with
 |ar n s f ih=>
  intro A h
  simp only[cells,sz]
  rw[flat_length,sumN_const (s:=s)]
  intro i hi
  rw[ih i _ (h i hi).2,(h i hi).1]
 |st n f ih=>
  intro A h
  simp only[cells,sz]
  rw[flat_length]
  exact sumN_congr λ i hi=>ih i _ (h i hi)
 |tup n f ih=>intro A h;exact h.elim
 |un=>intro A h;exact h.elim
 |_=>intro A h;simp[cells,sz]
theorem upd_self:∀(q:List Nat) (d x:Dat),navL d q=some x->upd d q x=d
 |[],d,x,h=>by simp only[navL,Option.some.injEq] at h;simp[upd,h]
 |i::q,.ar n s f,x,h=>by
  simp only[navL] at h
  split at h
  ·simp only[upd,upd_self q _ _ h]
   congr 1;funext j
   by_cases e:j=i
   ·subst e;rw[fup_same]
   ·rw[fup_ne _ _ e]
  ·cases h
 |i::q,.st n f,x,h=>by
  simp only[navL] at h
  split at h
  ·simp only[upd,upd_self q _ _ h]
   congr 1;funext j
   by_cases e:j=i
   ·subst e;rw[fup_same]
   ·rw[fup_ne _ _ e]
  ·cases h
 |_::_,.b _,_,h=>by simp[navL] at h
 |_::_,.i _ _,_,h=>by simp[navL] at h
 |_::_,.s _,_,h=>by simp[navL] at h
 |_::_,.p _ _ _,_,h=>by simp[navL] at h
 |_::_,.np,_,h=>by simp[navL] at h
 |_::_,.sl _ _ _ _,_,h=>by simp[navL] at h
 |_::_,.ns,_,h=>by simp[navL] at h
 |_::_,.ow _ _ _ _,_,h=>by simp[navL] at h
 |_::_,.tup _ _,_,h=>by simp[navL] at h
 |_::_,.fn _ _ _,_,h=>by simp[navL] at h
 |_::_,.mv _,_,h=>by simp[navL] at h
 |_::_,.sa _ _ _ _,_,h=>by simp[navL] at h
 |_::_,.un,_,h=>by simp[navL] at h
theorem focus:∀(q:List Nat) (d x:Dat) (A:List Nat->RV),WF d->navL d q=some x->
  WF x/\∃pre post,pre.length=offs d q/\(∀y,cells ρ A (upd d q y)=pre++cells ρ (λ z=>A (q++z)) y++post)/\
   (∀y,WF y->sz y=sz x->WF (upd d q y)/\sz (upd d q y)=sz d)
 |[],d,x,A,hw,h=>by
  simp only[navL,Option.some.injEq] at h
  subst h
  exact⟨hw,[],[],rfl,λ y=>by simp[upd],λ y hy e=>⟨by simpa[upd] using hy,by simpa[upd] using e⟩⟩
 |i::q,.ar n s f,x,A,hw,h=>by
  simp only[navL] at h
  split at h
  ·rename_i hi
   obtain⟨hx,pre,post,hl,hc,hu⟩:=focus q (f i) x (λ z=>A (i::z)) (hw i hi).2 h
   refine⟨hx,((List.range i).flatMap λ j=>cells ρ (λ z=>A (j::z)) (f j))++pre,post++((List.range (n-i-1)).flatMap λ j=>cells ρ (λ z=>A ((i+1+j)::z)) (f (i+1+j))),?_,λ y=>?_,λ y hy e=>⟨λ j hj=>?_,rfl⟩⟩
   ·rw[List.length_append,flat_length,hl,sumN_const (s:=s)]
    ·rfl
    ·intro j hj;rw[cells_length ρ _ _ (hw j (by omega)).2,(hw j (by omega)).1]
   ·simp only[upd,cells]
    rw[range_split hi,fup_same,hc]
    have e1:((List.range i).flatMap λ j=>cells ρ (λ q=>A (j::q)) (fup f i (upd (f i) q y) j))=(List.range i).flatMap λ j=>cells ρ (λ z=>A (j::z)) (f j):=by
     apply flatMap_congr
     intro j hj
     rw[fup_ne _ _ (by have:=List.mem_range.1 hj;omega)]
    have e2:((List.range (n-i-1)).flatMap λ j=>cells ρ (λ q=>A ((i+1+j)::q)) (fup f i (upd (f i) q y) (i+1+j)))=(List.range (n-i-1)).flatMap λ j=>cells ρ (λ z=>A ((i+1+j)::z)) (f (i+1+j)):=by
     apply flatMap_congr
     intro j hj
     rw[fup_ne _ _ (by omega)]
    rw[e1,e2]
    simp[List.append_assoc]
   ·by_cases e1:j=i
    ·subst e1;rw[fup_same];have:=hu y hy e;exact⟨this.2.trans (hw j hj).1,this.1⟩
    ·rw[fup_ne _ _ e1];exact hw j hj
  ·cases h
 |i::q,.st n f,x,A,hw,h=>by
  simp only[navL] at h
  split at h
  ·rename_i hi
   obtain⟨hx,pre,post,hl,hc,hu⟩:=focus q (f i) x (λ z=>A (i::z)) (hw i hi) h
   refine⟨hx,((List.range i).flatMap λ j=>cells ρ (λ z=>A (j::z)) (f j))++pre,post++((List.range (n-i-1)).flatMap λ j=>cells ρ (λ z=>A ((i+1+j)::z)) (f (i+1+j))),?_,λ y=>?_,λ y hy e=>⟨λ j hj=>?_,?_⟩⟩
   ·rw[List.length_append,flat_length,hl]
    simp only[offs]
    congr 1
    exact sumN_congr λ j hj=>cells_length ρ _ _ (hw j (by omega))
   ·simp only[upd,cells]
    rw[range_split hi,fup_same,hc]
    have e1:((List.range i).flatMap λ j=>cells ρ (λ q=>A (j::q)) (fup f i (upd (f i) q y) j))=(List.range i).flatMap λ j=>cells ρ (λ z=>A (j::z)) (f j):=by
     apply flatMap_congr
     intro j hj
     rw[fup_ne _ _ (by have:=List.mem_range.1 hj;omega)]
    have e2:((List.range (n-i-1)).flatMap λ j=>cells ρ (λ q=>A ((i+1+j)::q)) (fup f i (upd (f i) q y) (i+1+j)))=(List.range (n-i-1)).flatMap λ j=>cells ρ (λ z=>A ((i+1+j)::z)) (f (i+1+j)):=by
     apply flatMap_congr
     intro j hj
     rw[fup_ne _ _ (by omega)]
    rw[e1,e2]
    simp[List.append_assoc]
   ·by_cases e1:j=i
    ·subst e1;rw[fup_same];exact(hu y hy e).1
    ·rw[fup_ne _ _ e1];exact hw j hj
   ·simp only[upd,sz]
    refine sumN_congr λ j hj=>?_
    by_cases e1:j=i
    ·subst e1;rw[fup_same];exact(hu y hy e).2
    ·rw[fup_ne _ _ e1]
  ·cases h
 |_::_,.b _,_,_,_,h=>by simp[navL] at h
 |_::_,.i _ _,_,_,_,h=>by simp[navL] at h
 |_::_,.s _,_,_,_,h=>by simp[navL] at h
 |_::_,.p _ _ _,_,_,_,h=>by simp[navL] at h
 |_::_,.np,_,_,_,h=>by simp[navL] at h
 |_::_,.sl _ _ _ _,_,_,_,h=>by simp[navL] at h
 |_::_,.ns,_,_,_,h=>by simp[navL] at h
 |_::_,.ow _ _ _ _,_,_,_,h=>by simp[navL] at h
 |_::_,.tup _ _,_,_,_,h=>by simp[navL] at h
 |_::_,.fn _ _ _,_,_,_,h=>by simp[navL] at h
 |_::_,.mv _,_,_,_,h=>by simp[navL] at h
 |_::_,.sa _ _ _ _,_,_,_,h=>by simp[navL] at h
 |_::_,.un,_,_,_,h=>by simp[navL] at h
theorem focus_cells{q:List Nat}{d x:Dat}{A:List Nat->RV}(hw:WF d)(h:navL d q=some x):
  WF x/\∃pre post,pre.length=offs d q/\cells ρ A d=pre++cells ρ (λ z=>A (q++z)) x++post/\(∀y,cells ρ A (upd d q y)=pre++cells ρ (λ z=>A (q++z)) y++post)/\
   (∀y,WF y->sz y=sz x->WF (upd d q y)/\sz (upd d q y)=sz d):=by
 obtain⟨h1,pre,post,h2,h3,h4⟩:=focus ρ q d x A hw h
 refine⟨h1,pre,post,h2,?_,h3,h4⟩
 rw[<-h3,upd_self q d x h]
end
theorem leaf_congr{n:Nat}{ρ ρ':Rho}(hρ:∀r,r<n->ρ' r []=ρ r []):∀(d:Dat) (A:List Nat->RV),Sc n d->leaf ρ' A d=leaf ρ A d:=by
 intro d
 induction d with
 |p r q o=>intro A h;simp only[leaf,hρ r h]
 |sl r a b c=>intro A h;simp only[leaf,hρ r h]
 |fn g k f ih=>
  intro A h
  simp only[leaf]
  congr 2
  exact List.map_congr_left λ i hi=>ih i _ (h i (List.mem_range.1 hi))
 |_=>intro A h;rfl
theorem cells_congr{n:Nat}{ρ ρ':Rho}(hρ:∀r,r<n->ρ' r []=ρ r []):∀(d:Dat) (A:List Nat->RV),Sc n d->cells ρ' A d=cells ρ A d:=by
 intro d
 induction d with
 |ar k s f ih=>
  intro A h
  exact flatMap_congr λ i hi=>ih i _ (h i (List.mem_range.1 hi))
 |st k f ih=>
  intro A h
  exact flatMap_congr λ i hi=>ih i _ (h i (List.mem_range.1 hi))
 |_=>intro A h;simp only[cells];rw[leaf_congr hρ _ _ h]
theorem cells_plain{ρ:Rho}:∀(d:Dat) (A B:List Nat->RV),Pl d->cells ρ A d=cells ρ B d:=by
 intro d
 induction d with
 |ar k s f ih=>
  intro A B h
  exact flatMap_congr λ i hi=>ih i _ _ (h i (List.mem_range.1 hi))
 |st k f ih=>
  intro A B h
  exact flatMap_congr λ i hi=>ih i _ _ (h i (List.mem_range.1 hi))
 |ow=>intro A B h;exact h.elim
 |_=>intro A B h;rfl
theorem enc_congr{n:Nat}{ρ ρ':Rho}(hρ:∀r,r<n->ρ' r []=ρ r []):∀(d:Dat),Sc n d->enc ρ' d=enc ρ d:=by
 intro d
 induction d with
 |ar k s f ih=>intro h;simp only[enc];rw[cells_congr hρ (.ar k s f) _ h]
 |st k f ih=>intro h;simp only[enc];rw[cells_congr hρ (.st k f) _ h]
 |tup k f ih=>
  intro h
  simp only[enc]
  congr 2
  exact List.map_congr_left λ i hi=>ih i (h i (List.mem_range.1 hi))
 |_=>intro h;exact leaf_congr hρ _ _ h
theorem cells_one{ρ:Rho}:∀(d:Dat) (A:List Nat->RV),WF d->∀v∈cells ρ A d,v.oneCell'=true:=by
 intro d
 induction d with
 |ar k s f ih=>
  intro A h v hv
  obtain⟨i,hi,hv⟩:=List.mem_flatMap.1 hv
  exact ih i _ (h i (List.mem_range.1 hi)).2 v hv
 |st k f ih=>
  intro A h v hv
  obtain⟨i,hi,hv⟩:=List.mem_flatMap.1 hv
  exact ih i _ (h i (List.mem_range.1 hi)) v hv
 |tup=>intro A h;exact h.elim
 |un=>intro A h;exact h.elim
 |sl r a b c=>intro A h v hv;simp only[cells,List.mem_singleton] at hv;subst hv;simp only[leaf,RV.slice];((repeat' split)<;>rfl)
 |sa x a b c=>intro A h v hv;simp only[cells,List.mem_singleton] at hv;subst hv;simp only[leaf,RV.slice];((repeat' split)<;>rfl)
 |ow e n s f=>intro A h v hv;simp only[cells,List.mem_singleton] at hv;subst hv;simp only[leaf,RV.slice];((repeat' split)<;>rfl)
 |_=>intro A h v hv;simp only[cells,List.mem_singleton] at hv;subst hv;rfl
end Go.Proofs.YthjnmlpibafbnaaGreat.DM
namespace Go.Proofs.YthjnmlpibafbnaaGreat.DM
open Go.RowKit
set_option linter.unusedVariables false
set_option linter.unusedSimpArgs false
theorem ask_drawn{α:Type}:∀(k:Ask α) (w:World),w.drawn<=(w.ask k).2.drawn
 | .done a,w=>Nat.le_refl _
 | .ask what range k,w=>by
  simp only[World.ask]
  split
  ·exact ask_drawn (k 0) w
  ·exact Nat.le_trans (Nat.le_succ _) (ask_drawn (k _) { w with drawn:=w.drawn+1 })
theorem sys_drawn(w:World)(c:Sys):w.drawn<=(w.sys c).2.drawn:=by
 have h:=ask_drawn (Kernel.perform c w.os) w
 unfold World.sys
 split
 ·exact Nat.le_refl _
 ·rename_i r os w' h1 h2
  rw[h2] at h
  exact h
theorem view_drawn{p:Program}{w:World}{b:Addr}{u:TypeId}{a:Addr}{v:Value}{at_:Bool}{w':World}{l:List Addr}(h:w.viewStore p b u a v at_=.ok (w',l)):w'.drawn=w.drawn:=by
 unfold World.viewStore at h
 simp only[bind,Except.bind,pure,Except.pure,throw,throwThe,MonadExceptOf.throw] at h
 repeat' split at h
 all_goals first|(cases h;done)|(simp only[Except.ok.injEq,Prod.mk.injEq] at h;obtain⟨rfl,_⟩:=h;rfl)
theorem far_drawn{p:Program}{w:World}{a:Addr}{v:Value}{at_:Bool}{w':World}{l:List Addr}(h:w.farStore p a v at_=.ok (w',l)):w'.drawn=w.drawn:=by
 unfold World.farStore at h
 split at h
 ·split at h
  ·rename_i r hr
   cases h
   exact view_drawn hr
  ·cases h
 ·cases h
theorem run_drawn{α:Type}{p:Program}:∀(s:Sem α) (w:World) {a:α}{w':World},s.run p w=.ok a w'->w.drawn<=w'.drawn:=by
 intro s
 induction s with
 |pure a=>intro w a w' h;simp only[Sem.run,Result.ok.injEq] at h;rw[h.2];exact Nat.le_refl _
 |load m a k ih=>
  intro w b w' h
  simp only[Sem.run] at h
  split at h
  ·exact ih _ w h
  ·split at h
   ·exact ih _ w h
   ·cases h
 |store m a v k ih=>
  intro w b w' h
  have key:(match w.cell? a with
   |some _=>if w.frozen? a then Result.halt (.unsupported (.unsafePointer "a write to bytes that a string shares")) w else k.run p (w.setCell a v)
   |none=>match w.farStore p a v (m==Mode.atomic) with
    | .ok (w,_)=>k.run p w
    | .error h=>.halt h w)=.ok b w':=by
   cases v<;>first|exact h|cases h
  split at key
  ·split at key
   ·cases key
   ·exact ih (w.setCell a v) key
  ·split at key
   ·rename_i w1 l1 h1
    have:=ih _ key
    rw[<-far_drawn h1];exact this
   ·cases key
 |new o k ih=>intro w a w' h;exact ih _ { w with heap:=w.heap.push o } h
 |shape r k ih=>intro w a w' h;exact ih _ w h
 |freeze a n k ih=>
  intro w b w' h
  have:=ih (w.freeze a n) h
  have e:(w.freeze a n).drawn=w.drawn:=by unfold World.freeze;split<;>rfl
  rw[<-e];exact this
 |frozen a k ih=>intro w b w' h;exact ih _ w h
 |getObj r k ih=>
  intro w b w' h
  simp only[Sem.run] at h
  split at h
  ·cases h
  ·exact ih _ w h
  ·cases h
 |setObj r o k ih=>
  intro w b w' h
  simp only[Sem.run] at h
  split at h
  ·cases h
  ·exact ih { w with heap:=w.heap.setIfInBounds r o } h
  ·cases h
 |choose q k ih=>
  intro w b w' h
  simp only[Sem.run] at h
  split at h
  ·exact ih _ w h
  ·exact Nat.le_trans (Nat.le_succ _) (ih _ { w with drawn:=w.drawn+1 } h)
 |sys c k ih=>intro w b w' h;exact Nat.le_trans (sys_drawn w c) (ih _ _ h)
 |program k ih=>intro w b w' h;exact ih _ w h
 |mark m k ih=>intro w b w' h;exact ih w h
 |halt h=>intro w b w' h;cases h
end Go.Proofs.YthjnmlpibafbnaaGreat.DM
namespace Go.Proofs.YthjnmlpibafbnaaGreat.DM
open Go.RowKit
inductive Root where
 |dead
 |var (d:Dat)
 |row (e:TypeId) (n s:Nat) (f:Nat->Dat)
 |ro (n s:Nat) (f:Nat->Dat)
 |mp (b:Nat) (l:List (Dat×Dat))
def Root.con:Root->Option Dat
 | .dead=>none
 | .var d=>some d
 | .row e n s f=>some (.ow e n s f)
 | .ro n s f=>some (.ow 0 n s f)
 | .mp _ _=>some (.b false)
def Root.flat:Root->Option Dat
 | .dead=>none
 | .var d=>some d
 | .row _ n s f=>some (.ar n s f)
 | .ro n s f=>some (.ar n s f)
 | .mp _ _=>none
def Root.mine:Root->Bool
 | .var _=>true
 | .row _ _ _ _=>true
 | .mp _ _=>true
 |_=>false
def At(R:Root)(q:List Nat):Prop:=(q=[]/\R.con.isSome=true)\/∃d e n s f,R.con=some d/\nav d q=some (.ow e n s f)
def AtO(R:Root)(q:List Nat):Prop:=(q=[]/\R.con.isSome=true)\/∃d e n s f,R.con=some d/\nav d q=some (.ow e n s f)/\e≠0
theorem AtO.at{R:Root}{q:List Nat}(h:AtO R q):At R q:=by
 rcases h with h|⟨d,e,n,s,f,h1,h2,_⟩
 ·exact .inl h
 ·exact .inr ⟨d,e,n,s,f,h1,h2⟩
def VarOK(ρ:Rho)(w:World)(v:RV)(A:List Nat->RV)(d:Dat):Prop:=
 ∃blk t,w.heap[v.b]? =some (.cells blk t (0,0))/\v.o=0/\v.nil=false/\blk.toList=cells ρ A d
def RowOK(ρ:Rho)(w:World)(v:RV)(A:List Nat->RV)(e:TypeId)(n s:Nat)(f:Nat->Dat):Prop:=
 ∃blk,w.heap[v.b]? =some (.cells blk e (0,0))/\v.o=0/\v.nil=false/\n<=v.cap/\v.cap<=maxLen/\blk.size=v.cap*s/\blk.toList.take (n*s)=cells ρ A (.ar n s f)
def RoOK(ρ:Rho)(w:World)(v:RV)(A:List Nat->RV)(n s:Nat)(f:Nat->Dat):Prop:=
 (v.nil=true/\n=0)\/(v.nil=false/\n<=v.cap/\n<=maxLen/\v.b<w.heap.size/\∀j u,(cells ρ A (.ar n s f))[j]? =some u->w.cell? ⟨v.b,v.o+j,none⟩=some u)
def MapOK(w:World)(v:RV)(b:Nat)(l:List (Dat×Dat)):Prop:=
 v.b=b/\v.nil=false/\∃es clock,w.heap[b]? =some (.map es clock)/\es.toList.map (λ e=>(e.key,e.val))=l.map λ p=>(enc (λ _ _=>default) p.1,enc (λ _ _=>default) p.2)
theorem MapOK.keep{w w':World}{v:RV}{b:Nat}{l:List (Dat×Dat)}(h:MapOK w v b l)(hb:w'.heap[v.b]? =w.heap[v.b]?):MapOK w' v b l:=by
 obtain⟨rfl,h2,es,c,h3,h4⟩:=h
 exact⟨rfl,h2,es,c,hb.trans h3,h4⟩
theorem MapOK.lt{w:World}{v:RV}{b:Nat}{l:List (Dat×Dat)}(h:MapOK w v b l):v.b<w.heap.size:=by
 obtain⟨rfl,h2,es,c,h3,h4⟩:=h
 exact(Array.getElem?_eq_some_iff.1 h3).1
theorem VarOK.keep{ρ:Rho}{w w':World}{v:RV}{A:List Nat->RV}{d:Dat}(h:VarOK ρ w v A d)(hb:w'.heap[v.b]? =w.heap[v.b]?):VarOK ρ w' v A d:=by
 obtain⟨blk,t,h1,h2⟩:=h
 exact⟨blk,t,hb.trans h1,h2⟩
theorem RowOK.keep{ρ:Rho}{w w':World}{v:RV}{A:List Nat->RV}{e:TypeId}{n s:Nat}{f:Nat->Dat}(h:RowOK ρ w v A e n s f)(hb:w'.heap[v.b]? =w.heap[v.b]?):RowOK ρ w' v A e n s f:=by
 obtain⟨blk,h1,h2⟩:=h
 exact⟨blk,hb.trans h1,h2⟩
theorem RoOK.keep{ρ:Rho}{w w':World}{v:RV}{A:List Nat->RV}{n s:Nat}{f:Nat->Dat}(h:RoOK ρ w v A n s f)(hz:w.heap.size<=w'.heap.size)(hb:v.nil=false->w'.heap[v.b]? =w.heap[v.b]?):RoOK ρ w' v A n s f:=by
 rcases h with h|⟨h1,h2,h3,h4,h5⟩
 ·exact .inl h
 ·exact .inr ⟨h1,h2,h3,by omega,λ j u hu=>(World.cell?_of_block (a:=⟨v.b,v.o+j,none⟩) (hb h1)).trans (h5 j u hu)⟩
structure Rep(ρ:Rho)(m:List Root)(w:World):Prop where
 var:∀(r:Nat) d,m[r]? =some (.var d)->VarOK ρ w (ρ r []) (ρ r) d
 row:∀(r:Nat) (R:Root) d q e n s f,m[r]? =some R->R.mine=true->R.con=some d->nav d q=some (.ow e n s f)->(q=[]\/e≠0)->RowOK ρ w (ρ r q) (λ z=>ρ r (q++z)) e n s f
 ro:∀(r:Nat) (R:Root) d q e n s f,m[r]? =some R->(R.mine=false\/(q≠[]/\e=0))->R.con=some d->nav d q=some (.ow e n s f)->RoOK ρ w (ρ r q) (λ z=>ρ r (q++z)) n s f
 sep:∀(r:Nat) (R:Root) q (r':Nat) (R':Root) q',m[r]? =some R->m[r']? =some R'->R.mine=true->AtO R q->At R' q'->(ρ r' q').nil=false->(r=r'->q≠q')->(ρ r q).b≠(ρ r' q').b
 wf:∀(r:Nat) (R:Root) d,m[r]? =some R->R.con=some d->WF d/\Sc m.length d
 mp:∀(r:Nat) b l,m[r]? =some (.mp b l)->MapOK w (ρ r []) b l
structure BelowD(B:Nat)(w w':World):Prop where
 os:w'.os=w.os
 tape:w'.tape=w.tape
 drawn:w.drawn<=w'.drawn
 output:w'.output=w.output
 size:w.heap.size<=w'.heap.size
 block:∀k,k<B->w'.heap[k]? =w.heap[k]?
theorem BelowD.plain{B:Nat}{w w':World}(h:BelowD B w w'):Below B w w':=⟨h.os,h.tape,h.output,h.size,h.block⟩
structure Tr(ρ:Rho)(m:List Root)(w:World)(ρ':Rho)(m':List Root)(w':World):Prop where
 os:w'.os=w.os
 tape:w'.tape=w.tape
 drawn:w.drawn<=w'.drawn
 output:w'.output=w.output
 size:w.heap.size<=w'.heap.size
 agree:∀r,r<m.length->ρ' r []=ρ r []
 len:m.length<=m'.length
 keep:∀k,k<w.heap.size->(∀(r:Nat) (R:Root) q,m[r]? =some R->R.mine=true->AtO R q->(ρ r q).b≠k)->w'.heap[k]? =w.heap[k]?
 foot:∀(r:Nat) (R:Root) q,m'[r]? =some R->R.mine=true->AtO R q->w.heap.size<=(ρ' r q).b\/∃(r0:Nat) (R0:Root) (q0:List Nat),m[r0]? =some R0/\R0.mine=true/\AtO R0 q0/\(ρ r0 q0).b=(ρ' r q).b
 foot2:∀(r:Nat) (R:Root) q,m'[r]? =some R->At R q->(ρ' r q).nil=false->w.heap.size<=(ρ' r q).b\/∃(r0:Nat) (R0:Root) (q0:List Nat),m[r0]? =some R0/\At R0 q0/\(ρ r0 q0).nil=false/\(ρ r0 q0).b=(ρ' r q).b
theorem Tr.refl(ρ:Rho)(m:List Root)(w:World):Tr ρ m w ρ m w:=
 ⟨rfl,rfl,Nat.le_refl _,rfl,Nat.le_refl _,λ _ _=>rfl,Nat.le_refl _,λ _ _ _=>rfl,λ r R q h1 h2 h3=>.inr ⟨r,R,q,h1,h2,h3,rfl⟩,λ r R q h1 h2 h3=>.inr ⟨r,R,q,h1,h2,h3,rfl⟩⟩
theorem Tr.trans{ρ ρ1 ρ2:Rho}{m m1 m2:List Root}{w w1 w2:World}(h:Tr ρ m w ρ1 m1 w1)(k:Tr ρ1 m1 w1 ρ2 m2 w2):Tr ρ m w ρ2 m2 w2 where
 os:=k.os.trans h.os
 tape:=k.tape.trans h.tape
 drawn:=Nat.le_trans h.drawn k.drawn
 output:=k.output.trans h.output
 size:=Nat.le_trans h.size k.size
 agree:=λ r hr=>(k.agree r (Nat.lt_of_lt_of_le hr h.len)).trans (h.agree r hr)
 len:=Nat.le_trans h.len k.len
 keep:=λ b hb hn=>by
  rw[k.keep b (Nat.lt_of_lt_of_le hb h.size),h.keep b hb hn]
  intro r R q h1 h2 h3 he
  rcases h.foot r R q h1 h2 h3 with hx|⟨r0,R0,q0,g1,g2,g3,g4⟩
  ·omega
  ·exact hn r0 R0 q0 g1 g2 g3 (g4.trans he)
 foot:=λ r R q h1 h2 h3=>by
  rcases k.foot r R q h1 h2 h3 with hx|⟨r0,R0,q0,g1,g2,g3,g4⟩
  ·exact .inl (Nat.le_trans h.size hx)
  ·rcases h.foot r0 R0 q0 g1 g2 g3 with hx|⟨r1,R1,q1,f1,f2,f3,f4⟩
   ·exact .inl (by omega)
   ·exact .inr ⟨r1,R1,q1,f1,f2,f3,f4.trans g4⟩
 foot2:=λ r R q h1 h2 h3=>by
  rcases k.foot2 r R q h1 h2 h3 with hx|⟨r0,R0,q0,g1,g2,g3,g4⟩
  ·exact .inl (Nat.le_trans h.size hx)
  ·rcases h.foot2 r0 R0 q0 g1 g2 g3 with hx|⟨r1,R1,q1,f1,f2,f3,f4⟩
   ·exact .inl (by omega)
   ·exact .inr ⟨r1,R1,q1,f1,f2,f3,f4.trans g4⟩
structure TrK(K:Nat)(ρ:Rho)(m:List Root)(w:World)(ρ':Rho)(m':List Root)(w':World):Prop where
 os:w'.os=w.os
 tape:w'.tape=w.tape
 drawn:w.drawn<=w'.drawn
 output:w'.output=w.output
 size:w.heap.size<=w'.heap.size
 agree:∀r,r<K->ρ' r []=ρ r []
 keep:∀k,k<w.heap.size->(∀(r:Nat) (R:Root) q,m[r]? =some R->R.mine=true->AtO R q->(ρ r q).b≠k)->w'.heap[k]? =w.heap[k]?
 foot:∀(r:Nat) (R:Root) q,m'[r]? =some R->R.mine=true->AtO R q->w.heap.size<=(ρ' r q).b\/∃(r0:Nat) (R0:Root) (q0:List Nat),m[r0]? =some R0/\R0.mine=true/\AtO R0 q0/\(ρ r0 q0).b=(ρ' r q).b
 foot2:∀(r:Nat) (R:Root) q,m'[r]? =some R->At R q->(ρ' r q).nil=false->w.heap.size<=(ρ' r q).b\/∃(r0:Nat) (R0:Root) (q0:List Nat),m[r0]? =some R0/\At R0 q0/\(ρ r0 q0).nil=false/\(ρ r0 q0).b=(ρ' r q).b
theorem TrK.refl(K:Nat)(ρ:Rho)(m:List Root)(w:World):TrK K ρ m w ρ m w:=
 ⟨rfl,rfl,Nat.le_refl _,rfl,Nat.le_refl _,λ _ _=>rfl,λ _ _ _=>rfl,λ r R q h1 h2 h3=>.inr ⟨r,R,q,h1,h2,h3,rfl⟩,λ r R q h1 h2 h3=>.inr ⟨r,R,q,h1,h2,h3,rfl⟩⟩
theorem Tr.toK{K:Nat}{ρ ρ':Rho}{m m':List Root}{w w':World}(h:Tr ρ m w ρ' m' w')(hK:K<=m.length):TrK K ρ m w ρ' m' w':=
 ⟨h.os,h.tape,h.drawn,h.output,h.size,λ r hr=>h.agree r (Nat.lt_of_lt_of_le hr hK),h.keep,h.foot,h.foot2⟩
theorem TrK.full{ρ ρ':Rho}{m m':List Root}{w w':World}(h:TrK m.length ρ m w ρ' m' w')(hK:m.length<=m'.length):Tr ρ m w ρ' m' w':=
 ⟨h.os,h.tape,h.drawn,h.output,h.size,h.agree,hK,h.keep,h.foot,h.foot2⟩
theorem TrK.trans{K:Nat}{ρ ρ1 ρ2:Rho}{m m1 m2:List Root}{w w1 w2:World}(h:TrK K ρ m w ρ1 m1 w1)(k:TrK K ρ1 m1 w1 ρ2 m2 w2):TrK K ρ m w ρ2 m2 w2 where
 os:=k.os.trans h.os
 tape:=k.tape.trans h.tape
 drawn:=Nat.le_trans h.drawn k.drawn
 output:=k.output.trans h.output
 size:=Nat.le_trans h.size k.size
 agree:=λ r hr=>(k.agree r hr).trans (h.agree r hr)
 keep:=λ b hb hn=>by
  rw[k.keep b (Nat.lt_of_lt_of_le hb h.size),h.keep b hb hn]
  intro r R q h1 h2 h3 he
  rcases h.foot r R q h1 h2 h3 with hx|⟨r0,R0,q0,g1,g2,g3,g4⟩
  ·omega
  ·exact hn r0 R0 q0 g1 g2 g3 (g4.trans he)
 foot:=λ r R q h1 h2 h3=>by
  rcases k.foot r R q h1 h2 h3 with hx|⟨r0,R0,q0,g1,g2,g3,g4⟩
  ·exact .inl (Nat.le_trans h.size hx)
  ·rcases h.foot r0 R0 q0 g1 g2 g3 with hx|⟨r1,R1,q1,f1,f2,f3,f4⟩
   ·exact .inl (by omega)
   ·exact .inr ⟨r1,R1,q1,f1,f2,f3,f4.trans g4⟩
 foot2:=λ r R q h1 h2 h3=>by
  rcases k.foot2 r R q h1 h2 h3 with hx|⟨r0,R0,q0,g1,g2,g3,g4⟩
  ·exact .inl (Nat.le_trans h.size hx)
  ·rcases h.foot2 r0 R0 q0 g1 g2 g3 with hx|⟨r1,R1,q1,f1,f2,f3,f4⟩
   ·exact .inl (by omega)
   ·exact .inr ⟨r1,R1,q1,f1,f2,f3,f4.trans g4⟩
theorem Tr.below{ρ ρ':Rho}{m m':List Root}{w w':World}(h:Tr ρ m w ρ' m' w')(hm:∀(r:Nat) (R:Root),m[r]? =some R->R.mine=false):BelowD w.heap.size w w':=
 ⟨h.os,h.tape,h.drawn,h.output,h.size,λ k hk=>h.keep k hk λ r R q h1 h2 _=>by rw[hm r R h1] at h2;cases h2⟩
theorem Tr.of_below{ρ:Rho}{m:List Root}{w w':World}(h:BelowD w.heap.size w w'):Tr ρ m w ρ m w':=
 ⟨h.os,h.tape,h.drawn,h.output,h.size,λ _ _=>rfl,Nat.le_refl _,λ k hk _=>h.block k hk,λ r R q h1 h2 h3=>.inr ⟨r,R,q,h1,h2,h3,rfl⟩,λ r R q h1 h2 h3=>.inr ⟨r,R,q,h1,h2,h3,rfl⟩⟩
theorem VarOK.lt{ρ:Rho}{w:World}{v:RV}{A:List Nat->RV}{d:Dat}(h:VarOK ρ w v A d):v.b<w.heap.size:=by
 obtain⟨blk,t,h1,_⟩:=h
 exact(Array.getElem?_eq_some_iff.1 h1).1
theorem RowOK.lt{ρ:Rho}{w:World}{v:RV}{A:List Nat->RV}{e:TypeId}{n s:Nat}{f:Nat->Dat}(h:RowOK ρ w v A e n s f):v.b<w.heap.size:=by
 obtain⟨blk,h1,_⟩:=h
 exact(Array.getElem?_eq_some_iff.1 h1).1
theorem Rep.at_lt{ρ:Rho}{m:List Root}{w:World}(h:Rep ρ m w){r:Nat}{R:Root}{q:List Nat}(hr:m[r]? =some R)(ha:At R q)(hn:(ρ r q).nil=false):(ρ r q).b<w.heap.size:=by
 have main:∀d e n s f,R.con=some d->nav d q=some (.ow e n s f)->(ρ r q).b<w.heap.size:=by
  intro d e n s f hd hq
  have rd:(R.mine=false\/(q≠[]/\e=0))->(ρ r q).b<w.heap.size:=by
   intro hc
   rcases h.ro r R d q e n s f hr hc hd hq with⟨hx,_⟩|⟨_,_,_,hb,_⟩
   ·rw[hn] at hx;cases hx
   ·exact hb
  cases hm:R.mine with
  |true=>
   by_cases e1:q=[]
   ·exact(h.row r R d q e n s f hr hm hd hq (.inl e1)).lt
   ·by_cases e2:e=0
    ·exact rd (.inr ⟨e1,e2⟩)
    ·exact(h.row r R d q e n s f hr hm hd hq (.inr e2)).lt
  |false=>exact rd (.inl hm)
 rcases ha with⟨rfl,hs⟩|⟨d,e,n,s,f,hd,hq⟩
 ·cases R with
  |dead=>cases hs
  |var d=>exact(h.var r d hr).lt
  |row e n s f=>exact main _ e n s f rfl rfl
  |ro n s f=>exact main _ 0 n s f rfl rfl
  |mp b l=>exact(h.mp r b l hr).lt
 ·exact main d e n s f hd hq
theorem Rep.mine_nil{ρ:Rho}{m:List Root}{w:World}(h:Rep ρ m w){r:Nat}{R:Root}{q:List Nat}(hr:m[r]? =some R)(hm:R.mine=true)(ha:AtO R q):(ρ r q).nil=false:=by
 have main:∀d e n s f,R.con=some d->nav d q=some (.ow e n s f)->(q=[]\/e≠0)->(ρ r q).nil=false:=by
  intro d e n s f hd hq hc
  obtain⟨_,_,_,h3,_⟩:=h.row r R d q e n s f hr hm hd hq hc
  exact h3
 rcases ha with⟨rfl,hs⟩|⟨d,e,n,s,f,hd,hq,he⟩
 ·cases R with
  |dead=>cases hs
  |var d=>obtain⟨_,_,_,_,h3,_⟩:=h.var r d hr;exact h3
  |row e n s f=>exact main _ e n s f rfl rfl (.inl rfl)
  |ro n s f=>cases hm
  |mp b l=>exact(h.mp r b l hr).2.1
 ·exact main d e n s f hd hq (.inr he)
theorem Rep.move{ρ:Rho}{m:List Root}{w w':World}(h:Rep ρ m w)(hz:w.heap.size<=w'.heap.size)(hb:∀k,k<w.heap.size->w'.heap[k]? =w.heap[k]?):Rep ρ m w' where
 var:=λ r d hr=>(h.var r d hr).keep (hb _ (h.var r d hr).lt)
 row:=λ r R d q e n s f h1 h2 h3 h4 h5=>(h.row r R d q e n s f h1 h2 h3 h4 h5).keep (hb _ (h.row r R d q e n s f h1 h2 h3 h4 h5).lt)
 ro:=λ r R d q e n s f h1 h2 h3 h4=>(h.ro r R d q e n s f h1 h2 h3 h4).keep hz λ hn=>hb _ (h.at_lt h1 (.inr ⟨d,e,n,s,f,h3,h4⟩) hn)
 sep:=h.sep
 wf:=h.wf
 mp:=λ r b l hr=>(h.mp r b l hr).keep (hb _ (h.mp r b l hr).lt)
theorem Rep.below{ρ:Rho}{m:List Root}{w w':World}(h:Rep ρ m w)(hb:BelowD w.heap.size w w'):Rep ρ m w':=h.move hb.size hb.block
def Holds(n:Nat)(ρ:Rho)(d:Dat)(v:Value):Prop:=d=.un\/(v=enc ρ d/\Sc n d/\Ok d)
structure Frm(n:Nat)(ρ:Rho)(N:Nat)(fr:Nat->Dat)(tmps:Array Value):Prop where
 size:tmps.size=N
 slot:∀t,Holds n ρ (fr t) (tmps.getD t undef)
theorem Sc.mono{n n':Nat}(hn:n<=n'):∀{d:Dat},Sc n d->Sc n' d:=by
 intro d
 induction d with
 |p r q o=>intro h;exact Nat.lt_of_lt_of_le h hn
 |sl r a b c=>intro h;exact Nat.lt_of_lt_of_le h hn
 |ar k s f ih=>intro h i hi;exact ih i (h i hi)
 |st k f ih=>intro h i hi;exact ih i (h i hi)
 |ow e k s f ih=>intro h i hi;exact ih i (h i hi)
 |tup k f ih=>intro h i hi;exact ih i (h i hi)
 |fn g k f ih=>intro h i hi;exact ih i (h i hi)
 |_=>intro h;trivial
theorem Holds.tr{ρ ρ':Rho}{m m':List Root}{w w':World}(h:Tr ρ m w ρ' m' w'){d:Dat}{v:Value}(hh:Holds m.length ρ d v):Holds m'.length ρ' d v:=by
 rcases hh with hh|⟨h1,h2,h3⟩
 ·exact .inl hh
 ·exact .inr ⟨by rw[h1,enc_congr h.agree d h2],h2.mono h.len,h3⟩
theorem Frm.tr{ρ ρ':Rho}{m m':List Root}{w w':World}(h:Tr ρ m w ρ' m' w'){N:Nat}{fr:Nat->Dat}{tmps:Array Value}(hf:Frm m.length ρ N fr tmps):Frm m'.length ρ' N fr tmps:=
 ⟨hf.size,λ t=>(hf.slot t).tr h⟩
theorem Frm.put{n:Nat}{ρ:Rho}{N:Nat}{fr:Nat->Dat}{a:Act}(hf:Frm n ρ N fr a.tmps){t:Nat}(ht:t<N){d:Dat}{v:Value}(hv:Holds n ρ d v):Frm n ρ N (fup fr t d) (a.put (some t) v).tmps:=by
 refine⟨by simp[Act.put,hf.size],λ u=>?_⟩
 by_cases e:u=t
 ·subst e
  rw[fup_same]
  have:(a.put (some u) v).tmps.getD u undef=v:=by
   simp only[Act.put,Array.getD_eq_getD_getElem?]
   rw[Array.getElem?_setIfInBounds_self_of_lt (by rw[hf.size];exact ht)]
   rfl
  rw[this];exact hv
 ·rw[fup_ne _ _ e]
  have:(a.put (some t) v).tmps.getD u undef=a.tmps.getD u undef:=by
   simp only[Act.put,Array.getD_eq_getD_getElem?]
   rw[Array.getElem?_setIfInBounds_ne (Ne.symm e)]
  rw[this];exact hf.slot u
end Go.Proofs.YthjnmlpibafbnaaGreat.DM
