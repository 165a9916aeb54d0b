import Derived.Test.YthjnmlpibafbnaaGreatD4
import Derived.Laws.CopyRow
namespace Go.Proofs.YthjnmlpibafbnaaGreat.DM
open Go.RowKit
theorem splice{L pre xs post rest ys:List Value}(h:L=pre++xs++post++rest)(hl:ys.length=xs.length):
  L.take pre.length++ys++L.drop (pre.length+ys.length)=pre++ys++post++rest:=by
 subst h
 rw[hl]
 simp[List.drop_append,List.append_assoc]
theorem storeCells_run{P:Program}{ρ:Rho}{t:TypeId}{i:TI}(hi:i.ok P t){v:Dat}(hw:WF v)(hs:DM.sz v=i.sz){w:World}{b o:Nat}{blk:Array Value}{e:TypeId}
  (hb:w.heap[b]? =some (.cells blk e (0,0))) (ho:o+i.sz<=blk.size):
  (storeVar t ⟨b,o,none⟩ (enc ρ v)).run P w=.ok () (w.setRow b (blk.toList.take o++cells ρ noA v++blk.toList.drop (o+i.sz)).toArray):=by
 have hl:(cells ρ noA v).length=i.sz:=by rw[cells_length ρ _ _ hw,hs]
 have h1:=run_storeCells_at (P:=P) b o e (cells ρ noA v) 0 blk w hb (by omega) (cells_one v _ hw)
 unfold storeVar
 rw[Sem.run_bind,sizeOf_run hi w,enc_cells v hw]
 simp only[Result.andThen_ok,List.size_toArray,hl,ne_eq,not_true_eq_false,if_false]
 rw[h1]
 simp[hl]
theorem storeE_ok{P:Program}{T:TyEnv}(hT:TOK P T){t:TypeId}{x v:Dat}{m m':List Root}{ps:List Prop}(h:storeE T t x v m=some (ps,m'))(hp:AllP ps)
  {ρ:Rho}{w:World}(hrep:Rep ρ m w) (hsv:Sc m.length v) (hok:Ok v):∃w',(Instr.storeAt t (enc ρ x) (enc ρ v)).run P w=.ok () w'/\Rep ρ m' w'/\Tr ρ m w ρ m' w':=by
 unfold storeE at h
 split at h
 case h_2=>cases h
 rename_i r q o i hti
 split at h
 case h_2=>cases h
 rename_i R hR
 cases hm:R.mine with
 |false=>rw[hm] at h;cases h
 |true=>
 rw[hm] at h
 simp only[cond_true] at h
 split at h
 case h_2=>cases h
 rename_i ps0 old hnav
 cases hfit0:fit i v&&(R.rowS q i.sz||fit i old) with
 |false=>rw[hfit0] at h;cases h
 |true=>
 rw[hfit0] at h
 simp only[Bool.and_eq_true,Bool.or_eq_true] at hfit0
 obtain⟨hfit,hfit'⟩:=hfit0
 simp only[cond_true,Option.some.injEq,Prod.mk.injEq] at h
 obtain⟨rfl,rfl⟩:=h
 obtain⟨hp1,hoff⟩:=hp.app
 have hoff:R.offA q=o:=hoff
 obtain⟨hnl,hoo⟩:=Root.navE_ok hnav hp1
 have hsv1:=(fit_sz hfit).1
 have hso:DM.sz old=i.sz:=by
  rcases hfit' with hfit'|hfit'
  ·cases R with
   |dead=>cases hm
   |mp=>simp[Root.navL] at hnl
   |ro=>cases hm
   |var d=>cases hfit'
   |row e n s f=>
    cases q with
    |nil=>cases hfit'
    |cons j q=>
     cases q with
     |cons _ _=>cases hfit'
     |nil=>
      have e1:s=i.sz:=Nat.eq_of_beq_eq_true hfit'
      obtain⟨d,hf,hn,_,_⟩:=Root.flat_nav hnl
      cases hf
      simp only[navL] at hn
      split at hn
      ·rename_i hj
       cases hn
       have:=((hrep.wf r _ _ hR rfl).1 j hj).1
       omega
      ·cases hn
  ·exact(fit_sz hfit').1
 have hwo:=(hrep.part hR hnl).1
 have hvv:WF v/\Pl v:=by
  have:∀n f,v≠.tup n f:=by
   rintro n f rfl
   cases hag:i.ty.agg with
   |true=>rcases(fit_sz hfit).2.2 hag with⟨_,_,_,e⟩|⟨_,_,e⟩<;>cases e
   |false=>have:=(fit_sz hfit).2.1 hag;cases this
  cases v<;>first|exact hok|exact absurd rfl (this _ _)
 obtain⟨hwv,hpv⟩:=hvv
 have hti':=hT t i hti
 obtain⟨d,hf,hn,ho,hu⟩:=Root.flat_nav hnl
 obtain⟨c,hc⟩:=con_of_flat hf
 have hwc:=hrep.wf r R c hR hc
 have hwd:WF d:=wf_flat hc hf hwc.1
 obtain⟨_,pre,post,hl,hcs,hcu,hwu⟩:=focus_cells ρ (A:=ρ r) hwd hn
 have hwu':=hwu v hwv (by rw[hsv1,hso])
 have hflat:=hu hm v
 --the block
 have hblk:∃blk e rest,w.heap[(ρ r []).b]? =some (.cells blk e (0,0))/\(ρ r []).o=0/\(ρ r []).nil=false/\blk.toList=cells ρ (ρ r) d++rest/\
   (∀d',R=.var d'->rest=[])/\(∀e' n s f,R=.row e' n s f->e'=e/\n<=(ρ r []).cap/\(ρ r []).cap<=maxLen/\blk.size=(ρ r []).cap*s):=by
  cases R with
  |dead=>cases hm
  |mp=>cases hf
  |ro=>cases hm
  |var d'=>
   cases hf
   obtain⟨blk,e,h1,h2,h3,h4⟩:=hrep.var r d hR
   exact⟨blk,e,[],h1,h2,h3,by rw[h4,List.append_nil],λ _ _=>rfl,λ _ _ _ _ h=>by cases h⟩
  |row e n s f=>
   cases hf
   obtain⟨blk,h1,h2,h3,h4,h5,h6,h7⟩:=hrep.row r _ _ [] e n s f hR rfl hc (by cases hc;rfl) (.inl rfl)
   have h7':blk.toList.take (n*s)=cells ρ (ρ r) (.ar n s f):=h7
   exact⟨blk,e,blk.toList.drop (n*s),h1,h2,h3,by rw[<-h7',List.take_append_drop],λ _ h=>(by cases h),λ _ _ _ _ h=>(by cases h;exact⟨rfl,h4,h5,h6⟩)⟩
 obtain⟨blk,e,rest,hb,hb0,hbn,hbl,hbv,hbr⟩:=hblk
 have hA:∀(y:Dat),Pl y->cells ρ (λ z=>ρ r (q++z)) y=cells ρ noA y:=λ y hy=>cells_plain y _ _ hy
 have hlen:pre.length+i.sz<=blk.size:=by
  have:blk.size=(cells ρ (ρ r) d).length+rest.length:=by rw[<-Array.length_toList,hbl,List.length_append]
  rw[this,hcs]
  have h0:(cells ρ (λ z=>ρ r (q++z)) old).length=i.sz:=by rw[cells_length ρ _ _ hwo,hso]
  simp only[List.length_append,h0];omega
 have hrun:=storeCells_run (P:=P) (ρ:=ρ) hti' hwv hsv1 hb hlen
 have hsp:blk.toList.take pre.length++cells ρ noA v++blk.toList.drop (pre.length+i.sz)=cells ρ (ρ r) (DM.upd d q v)++rest:=by
  have h0:(cells ρ noA v).length=i.sz:=by rw[cells_length ρ _ _ hwv,hsv1]
  have h1:(cells ρ (λ z=>ρ r (q++z)) old).length=i.sz:=by rw[cells_length ρ _ _ hwo,hso]
  have:=splice (L:=blk.toList) (pre:=pre) (xs:=cells ρ (λ z=>ρ r (q++z)) old) (post:=post) (rest:=rest) (ys:=cells ρ noA v) (by rw[hbl,hcs]) (by rw[h0,h1])
  rw[h0] at this
  rw[this,hcu v,hA v hpv]
 rw[hsp] at hrun
 have hadr:enc ρ (.p r q o)=.pointer (some ⟨(ρ r []).b,pre.length,none⟩):=by
  show Value.pointer (some ⟨(ρ r []).b,(ρ r []).o+o,none⟩)=_
  rw[<-hoff,hoo,ho, <-hl,hb0,Nat.zero_add]
 have hblt:(ρ r []).b<w.heap.size:=(Array.getElem?_eq_some_iff.1 hb).1
 refine⟨_,by rw[hadr];unfold Instr.storeAt;simp only[Instr.sureAddr,Sem.run_bind,Sem.run_pure,Result.andThen_ok];exact hrun,?_,?_⟩
 ·have hm':(R.upd q v).mine=true:=by
   cases R<;>first|(cases hm;done)|(cases hf;done)|skip
   ·rfl
   ·cases q<;>rfl
  refine hrep.replace hR hm hm' (size_setRow _ _ _) (λ k hk=>setRow_other w _ _ _ hk) ?_ ?_ ?_ ?_ ?_ (λ b l hh=>by cases R<;>first|(cases hf;done)|(cases hm;done)|(cases q<;>cases hh))
  ·intro d' hd'
   refine⟨_,e,setRow_heap w _ _ _ _ _ hb,hb0,hbn,?_⟩
   cases R with
   |var d0=>
    cases hf
    cases hd'
    rw[hbv _ rfl];simp
   |row=>cases q<;>cases hd'
   |dead=>cases hm
   |mp=>cases hf
   |ro=>cases hm
  ·intro e' n s f hd'
   cases R with
   |var d0=>cases hd'
   |dead=>cases hm
   |mp=>cases hf
   |ro=>cases hm
   |row e0 n0 s0 f0=>
    obtain⟨g1,g2,g3,g4⟩:=hbr _ _ _ _ rfl
    cases q with
    |nil=>simp[Root.navL] at hnl
    |cons j q=>
     simp only[Root.upd,Root.row.injEq] at hd'
     obtain⟨rfl,rfl,rfl,rfl⟩:=hd'
     cases hf
     subst g1
     have e1:(DM.upd (.ar n0 s0 f0) (j::q) v)=.ar n0 s0 (fup f0 j (DM.upd (f0 j) q v)):=rfl
     have hl2:(cells ρ (ρ r) (DM.upd (.ar n0 s0 f0) (j::q) v)).length=n0*s0:=by
      rw[cells_length ρ _ _ hwu'.1,hwu'.2];rfl
     refine⟨_,setRow_heap w _ _ _ _ _ hb,hb0,hbn,g2,g3,?_,?_⟩
     ·rw[<-g4,List.size_toArray,List.length_append,hl2, <-Array.length_toList,hbl,List.length_append,cells_length ρ _ _ hwd]
      rfl
     ·rw[<-hl2,List.toList_toArray]
      rw[show List.take (cells ρ (ρ r) (DM.upd (.ar n0 s0 f0) (j::q) v)).length (cells ρ (ρ r) (DM.upd (.ar n0 s0 f0) (j::q) v)++rest)=cells ρ (ρ r) (DM.upd (.ar n0 s0 f0) (j::q) v) from by simp]
      rfl
  ·intro c0 c' z e' n s f h1 h2 hz h3
   have:c0=c:=by rw[hc] at h1;exact(Option.some.inj h1).symm
   subst this
   cases R with
   |dead=>cases hm
   |mp=>cases hf
   |ro=>cases hm
   |var d0=>
    cases hf;cases hc;cases h2
    exact nav_upd hpv hn h3
   |row e0 n0 s0 f0=>
    cases hf;cases hc
    cases q with
    |nil=>simp[Root.navL] at hnl
    |cons j q=>
     cases h2
     cases z with
     |nil=>exact absurd rfl hz
     |cons k z=>
      have h4:nav (DM.upd (.ar n0 s0 f0) (j::q) v) (k::z)=some (.ow e' n s f):=by simpa only[nav,DM.upd] using h3
      have h5:=nav_upd hpv hn h4
      simpa only[nav] using h5
  ·intro d' e' n s f hd'
   cases R with
   |dead=>cases hm
   |mp=>cases hf
   |ro=>cases hm
   |row=>cases q<;>cases hd'
   |var d0=>
    cases hf;cases hd'
    intro h3
    have h5:=nav_upd hpv hn h3
    cases q with
    |nil=>simp only[DM.upd,nav,Option.some.injEq] at h3;subst h3;exact hpv
    |cons j q=>
     cases d<;>simp only[DM.navL] at hn<;>first|(cases hn;done)|skip
     ·simp[nav] at h5
     ·simp[nav] at h5
  ·intro c' h2
   cases R with
   |dead=>cases hm
   |mp=>cases hf
   |ro=>cases hm
   |var d0=>cases hf;cases hc;cases h2;exact⟨hwu'.1,sc_upd hsv hwc.2⟩
   |row e0 n0 s0 f0=>
    cases hf;cases hc
    cases q with
    |nil=>simp[Root.navL] at hnl
    |cons j q=>cases h2;exact⟨hwu'.1,sc_upd (q:=j::q) (d:=.ar n0 s0 f0) hsv hwc.2⟩
 ·refine⟨rfl,rfl,Nat.le_refl _,rfl,by rw[size_setRow];exact Nat.le_refl _,λ _ _=>rfl,by simp,λ k hk hne=>setRow_other w _ _ _ (λ e1=>?_),λ r' X z hx hxm hxa=>.inr ?_,λ r' X z hx hxa hxn=>.inr ?_⟩
  ·exact hne r R [] hR hm (.inl ⟨rfl,by rw[hc];rfl⟩) e1.symm
  ·rcases set_get hx with⟨rfl,rfl,_⟩|⟨_,h1⟩
   ·refine⟨r',R,z,hR,hm,?_,rfl⟩
    rcases hxa with⟨rfl,_⟩|⟨c',e',n,s,f,h2,h3,h9⟩
    ·exact .inl ⟨rfl,by rw[hc];rfl⟩
    ·cases R with
     |dead=>cases hm
     |mp=>cases hf
     |ro=>cases hm
     |var d0=>
      cases hf;cases hc;cases h2
      exact .inr ⟨_,_,_,_,_,rfl,nav_upd hpv hn h3,h9⟩
     |row e0 n0 s0 f0=>
      cases hf;cases hc
      cases q with
      |nil=>simp[Root.navL] at hnl
      |cons j q=>
       cases h2
       cases z with
       |nil=>exact .inl ⟨rfl,rfl⟩
       |cons k z=>
        have h4:nav (DM.upd (.ar n0 s0 f0) (j::q) v) (k::z)=some (.ow e' n s f):=by simpa only[nav,DM.upd] using h3
        have h5:=nav_upd hpv hn h4
        exact .inr ⟨_,_,_,_,_,rfl,by simpa only[nav] using h5,h9⟩
   ·exact⟨r',X,z,h1,hxm,hxa,rfl⟩
  ·rcases set_get hx with⟨rfl,rfl,_⟩|⟨_,h1⟩
   ·refine⟨r',R,z,hR,?_,hxn,rfl⟩
    rcases hxa with⟨rfl,_⟩|⟨c',e',n,s,f,h2,h3⟩
    ·exact .inl ⟨rfl,by rw[hc];rfl⟩
    ·cases R with
     |dead=>cases hm
     |mp=>cases hf
     |ro=>cases hm
     |var d0=>
      cases hf;cases hc;cases h2
      exact .inr ⟨_,_,_,_,_,rfl,nav_upd hpv hn h3⟩
     |row e0 n0 s0 f0=>
      cases hf;cases hc
      cases q with
      |nil=>simp[Root.navL] at hnl
      |cons j q=>
       cases h2
       cases z with
       |nil=>exact .inl ⟨rfl,rfl⟩
       |cons k z=>
        have h4:nav (DM.upd (.ar n0 s0 f0) (j::q) v) (k::z)=some (.ow e' n s f):=by simpa only[nav,DM.upd] using h3
        have h5:=nav_upd hpv hn h4
        exact .inr ⟨_,_,_,_,_,rfl,by simpa only[nav] using h5⟩
   ·exact⟨r',X,z,h1,hxa,hxn,rfl⟩
end Go.Proofs.YthjnmlpibafbnaaGreat.DM
namespace Go.Proofs.YthjnmlpibafbnaaGreat.DM
open Go.RowKit
def byteAt(s:ByteArray)(i:Nat):Int:=((s.data.getD i 0).toNat:Int)
def addrAt(off i:Nat):Nat:=match off with
 |0=>i
 |off+1=>off+1+i
def buildE(T:TyEnv)(pt:Nat->Option (TypeId×Nat))(d:Dat)(l:List (Nat×Dat)):Option (List Prop×Dat):=match l with
 |[]=>some ([],d)
 |(i,v)::rest=>match pt i with
  |some (t,off)=>match T t with
   |some ti=>match navE d [i] with
    |some (ps,old)=>bif (fit ti v&&fit ti old)&&Nat.beq off (offs d [i]) then match buildE T pt (upd d [i] v) rest with
      |some (rs,x)=>some (ps++rs,x)
      |none=>none
     else none
    |none=>none
   |none=>none
  |none=>none
def known(T:TyEnv):List (TypeId×Nat)->Bool
 |[]=>true
 |(t,_)::l=>match T t with
  |some _=>known T l
  |none=>false
def parts(fr:Nat->Dat):List (Nat×Operand)->List (Nat×Dat)
 |[]=>[]
 |(i,x)::l=>(i,ev fr x)::parts fr l
def Root.rowy:Root->Bool
 | .row _ _ _ _=>true
 | .ro _ _ _=>true
 | .var (.ar _ _ _)=>true
 |_=>false
def Root.holds:Root->Nat->Nat->Prop
 | .ro n _ _,off,len=>off+len<=n
 |_,_,_=>True
def fQ{α:Type}(q:List Nat)(k:List Nat->α):α:=match q with
 |[]=>k []
 |x::q=>fQ q λ q=>k (x::q)
theorem fQ_eq{α:Type}:∀(q:List Nat) (k:List Nat->α),fQ q k=k q
 |[],_=>rfl
 |x::q,k=>by rw[fQ,fQ_eq q]
def fD{α:Type}(d:Dat)(k:Dat->α):α:=match d with
 | .b x=>k (.b x)
 | .i a x=>k (.i a x)
 | .s x=>k (.s x)
 | .p r q o=>fQ q λ q=>k (.p r q o)
 | .np=>k .np
 | .sl r a b c=>k (.sl r a b c)
 | .ns=>k .ns
 | .ar n s f=>k (.ar n s f)
 | .st n f=>k (.st n f)
 | .ow e n s f=>k (.ow e n s f)
 | .tup n f=>k (.tup n f)
 | .fn g n f=>k (.fn g n f)
 | .mv b=>k (.mv b)
 | .sa v a b c=>k (.sa v a b c)
 | .un=>k .un
theorem fD_eq{α:Type}(d:Dat)(k:Dat->α):fD d k=k d:=by
 cases d with
 |p r q o=>exact fQ_eq q (λ q=>k (.p r q o))
 |_=>rfl
def fL{α:Type}(m:List Root)(k:Nat->α):α:=match m with
 |[]=>k 0
 |_::l=>fL l λ n=>k (n+1)
theorem fL_eq{α:Type}:∀(m:List Root) (k:Nat->α),fL m k=k m.length
 |[],_=>rfl
 |_::l,k=>by rw[fL,fL_eq l];rfl
def fP{α:Type}(l:List (Nat×Dat))(k:List (Nat×Dat)->α):α:=match l with
 |[]=>k []
 |(i,d)::l=>fD d λ d=>fP l λ l=>k ((i,d)::l)
theorem fP_eq{α:Type}:∀(l:List (Nat×Dat)) (k:List (Nat×Dat)->α),fP l k=k l
 |[],_=>rfl
 |(i,d)::l,k=>by rw[fP,fD_eq,fP_eq l]
def NoOwn:Dat->Prop
 | .ar k _ f=>∀i,i<k->NoOwn (f i)
 | .st k f=>∀i,i<k->NoOwn (f i)
 | .ow e k _ f=>e=0/\∀i,i<k->NoOwn (f i)
 |_=>True
def Root.holdsL:Root->Nat->Nat->List Prop
 | .ro n _ _,off,len=>[off+len<=n]
 |_,_,_=>[]
def Root.elems:Root->Option (Nat×Nat×(Nat->Dat))
 | .row _ n s f=>some (n,s,f)
 | .ro n s f=>some (n,s,f)
 |_=>none
def Root.readL:Root->List Prop
 | .ro n _ f=>[∀j,j<n->NoOwn (f j)]
 |_=>[]
def Root.given:Root->Root
 | .row _ _ _ _=>.dead
 |R=>R
def apF(n:Nat)(f:Nat->Dat)(off:Nat)(g:Nat->Dat)(i:Nat):Dat:=bif Nat.blt i n then f i else g (off+(i-n))
def lenE(T:TyEnv)(t:TypeId)(x:Dat)(m:List Root):Option (List Prop×Dat):=
 match T t,x with
 |some ⟨.slice _,_,_,_⟩,.sl r off len _=>match m[r]? with
  |some R=>bif R.rowy then some (R.holdsL off len,.i .i64 (len:Int)) else none
  |none=>none
 |some ⟨.slice _,_,_,_⟩,.ns=>some ([],.i .i64 0)
 |some ⟨.str,_,_,_⟩,.s b=>some ([],.i .i64 (b.size:Int))
 |_,_=>none
def appE(T:TyEnv)(t:TypeId)(x y:Dat)(m:List Root):Option (List Prop×Dat×List Root):=
 match T t,y with
 |some ⟨.slice e,_,_,_⟩,.sl r2 off len s2=>match T e,m[r2]? with
  |some i,some R2=>match R2.elems with
   |some (n2,s',f2)=>bif Nat.beq s2 i.sz&&(Nat.beq s' i.sz&&Nat.ble i.bytes 4096) then
     match x with
     | .sl r 0 n s=>bif Nat.beq s i.sz&&!Nat.beq r r2 then match m[r]? with
       |some (.row e' n' s'' f)=>bif Nat.beq e' e&&Nat.beq s'' i.sz then
         fL m λ k=>some ([n<=n',off+len<=n2,n+len<=4294967296]++R2.readL,.sl k 0 (n+len) i.sz,(m.set r .dead).set r2 R2.given++[.row e (n+len) i.sz (apF n f off f2)])
        else none
       |_=>none
      else none
     | .ns=>fL m λ k=>some ([0<len,off+len<=n2,len<=4294967296]++R2.readL,.sl k 0 len i.sz,m.set r2 R2.given++[.row e len i.sz (apF 0 f2 off f2)])
     |_=>none
    else none
   |none=>none
  |_,_=>none
 |_,_=>none
def loadS(T:TyEnv)(t:TypeId)(x:Dat)(m:List Root):Option (List Prop×Dat×List Root):=
 match x,T t with
 | .p r (j::q) o,some ⟨.slice _,sz,_,_⟩=>match m[r]? with
  |some R=>match R.navE (j::q) with
   |some (ps,.ow e n s f)=>bif Nat.beq sz 1&&(Nat.beq e 0||!R.mine) then fL m λ k=>some (ps++(R.offA (j::q)=o)::(bif R.mine then[∀i,i<n->NoOwn (f i)] else[]),.sl k 0 n s,m++[.ro n s f]) else bif Nat.beq sz 1&&(R.mine&&!Nat.beq e 0) then fL m λ k=>some (ps++[R.offA (j::q)=o],.sl k 0 n s,m.set r (R.upd (j::q) (.sl k 0 n s))++[.row e n s f]) else none
   |_=>none
  |none=>none
 |_,_=>none
def eqAll(F:Nat->Option Bool)(i:Nat)(n:Nat):Option Bool:=match n with
 |0=>some true
 |n+1=>match F i,eqAll F (i+1) n with
  |some b,some c=>some (b&&c)
  |_,_=>none
def eqFs(T:TyEnv)(E:TypeId->Dat->Dat->Option Bool)(x y:Dat)(n:Nat)(f g:Nat->Dat)(l:List (TypeId×Nat))(j:Nat):Option Bool:=match l with
 |[]=>some true
 |(t,off)::l=>match T t with
  |some i=>bif Nat.blt j n&&(Nat.beq off (offs x [j])&&(Nat.beq off (offs y [j])&&(fit i (f j)&&fit i (g j)))) then match E t (f j) (g j),eqFs T E x y n f g l (j+1) with
    |some c,some d=>some (c&&d)
    |_,_=>none
   else none
  |none=>none
def eqD(T:TyEnv)(d:Nat)(t:TypeId)(x y:Dat):Option Bool:=match d with
 |0=>none
 |d+1=>match T t with
  |some ⟨.int _,_,_,_⟩=>match x,y with
   | .i k a,.i k' b=>bif kEq k k' then some (decide (a=b)) else none
   |_,_=>none
  |some ⟨.bool,_,_,_⟩=>match x,y with
   | .b a,.b b=>some (a==b)
   |_,_=>none
  |some ⟨.arr n e,_,_,_⟩=>match T e,x,y with
   |some i,.ar n1 s1 f,.ar n2 s2 g=>bif Nat.beq n1 n&&(Nat.beq n2 n&&(Nat.beq s1 i.sz&&Nat.beq s2 i.sz)) then eqAll (λ j=>bif fit i (f j)&&fit i (g j) then eqD T d e (f j) (g j) else none) 0 n else none
   |_,_,_=>none
  |some ⟨.st fs,_,_,_⟩=>match x,y with
   | .st n f,.st n' g=>bif Nat.beq n fs.length&&Nat.beq n' fs.length then eqFs T (eqD T d) x y n f g fs 0 else none
   |_,_=>none
  |_=>none
def eqE(T:TyEnv)(op:BinOp)(t:TypeId)(x y:Dat):Option Bool:=
 match T t with
 |some i=>bif i.ty.agg then match op with
   | .eql=>eqD T 6 t x y
   | .neq=>match eqD T 6 t x y with
    |some b=>some (!b)
    |none=>none
   |_=>none
  else none
 |none=>none
def evalOp(T:TyEnv)(wm:Bool)(o:Op)(fr:Nat->Dat)(m:List Root):Option (List Prop×Dat×List Root):=
 match o with
 | .move x=>some ([],ev fr x,m)
 | .assign x=>some ([],ev fr x,m)
 | .pick c x y=>match ev fr c,ev fr x,ev fr y with
  | .b c,.b x,.b y=>some ([],.b (bif c then x else y),m)
  | .b true,x,_=>some ([],x,m)
  | .b false,_,y=>some ([],y,m)
  |_,_,_=>none
 | .alloc t=>match T t with
  |some i=>fL m λ n=>some ([],.p n [] 0,m++[.var i.z])
  |none=>none
 | .box t x=>match T t with
  |some i=>bif fit i (ev fr x) then fL m λ n=>some ([],.p n [] 0,m++[.var (ev fr x)]) else none
  |none=>none
 | .load t x=>match loadE T t (ev fr x) m with
  |some (ps,v)=>some (ps,v,m)
  |none=>loadS T t (ev fr x) m
 | .call ⟨.builtin b,args,ts⟩=>match b,args.toList,ts.toList with
  | .len,[x],[t]=>match lenE T t (ev fr x) m with
   |some (ps,v)=>some (ps,v,m)
   |none=>none
  | .append,[x,y],[t,t']=>bif Nat.beq t t' then fD (ev fr x) λ x=>fD (ev fr y) λ y=>appE T t x y m else none
  |_,_,_=>none
 | .makeSlice t x y=>match T t,ev fr x,ev fr y with
  |some ⟨.slice e,_,_,_⟩,.i _ a,.i _ b=>match T e with
   |some i=>bif Nat.ble i.bytes 4096 then fL m λ k=>some ([0<=a,a<=b,b<=4294967296],.sl k 0 a.toNat i.sz,m++[.row e a.toNat i.sz (λ _=>i.z)]) else none
   |none=>none
  |_,_,_=>none
 | .buildSlice t len ps=>match T t with
  |some ⟨.slice e,_,_,_⟩=>match T e with
   |some i=>bif Nat.ble (len*i.sz) 16777216 then fP (parts fr ps.toList) λ l=>match buildE T (λ j=>some (e,j*i.sz)) (.ar len i.sz (λ _=>i.z)) l with
     |some (qs,.ar n _ f)=>fL m λ k=>some (qs,.sl k 0 n i.sz,m++[.row e n i.sz f])
     |_=>none
    else none
   |none=>none
  |_=>none
 | .store t x y=>fD (ev fr y) λ v=>match storeE T t (ev fr x) v m with
  |some (ps,m')=>some (ps,.un,m')
  |none=>none
 | .binOp op t x y _=>match bin T wm op t (ev fr x) (ev fr y) with
  |some (ps,v)=>some (ps,v,m)
  |none=>match eqE T op t (ev fr x) (ev fr y) with
   |some b=>some ([],.b b,m)
   |none=>none
 | .unOp .not _ x=>match ev fr x with
  | .b x=>some ([],.b (!x),m)
  |_=>none
 | .unOp .neg _ x=>match ev fr x with
  | .i k x=>some ((num wm k (0-x)).1,(num wm k (0-x)).2,m)
  |_=>none
 | .convert s t x=>match T s,T t,ev fr x with
  |some ⟨.int _,_,_,_⟩,some ⟨.int k,_,_,_⟩,.i _ x=>some ((num wm k x).1,(num wm k x).2,m)
  |_,_,_=>none
 | .fieldAddr t x j=>match T t,ev fr x with
  |some ⟨.st fs,_,_,_⟩,.p r q o=>match fs[j]? with
   |some (ft,off)=>match T ft with
    |some i=>bif Nat.beq i.sz 0 then none else some ([],.p r (q++[j]) (o+off),m)
    |none=>none
   |none=>none
  |_,_=>none
 | .indexAddr t x y=>match T t,ev fr x,ev fr y with
  |some ⟨.arr n e,_,_,_⟩,.p r q o,.i _ z=>match T e with
   |some i=>some ([0<=z,z<n],.p r (q++[z.toNat]) (o+z.toNat*i.sz),m)
   |none=>none
  |some ⟨.slice e,_,_,_⟩,.sl r off len s,.i _ z=>match T e with
   |some i=>bif Nat.beq i.sz s then match m[r]? with
     |some R=>bif R.rowy then some ([0<=z,z<len,R.holds off len],.p r [addrAt off z.toNat] (0+addrAt off z.toNat*s),m) else none
     |none=>none
    else none
   |none=>none
  |_,_,_=>none
 | .index t x y=>match T t,ev fr x,ev fr y with
  |some ⟨.arr n e,_,_,_⟩,.ar n' s f,.i _ z=>match T e with
   |some i=>bif Nat.beq n n'&&(Nat.beq s i.sz&&fit i (f z.toNat)) then some ([0<=z,z<n],f z.toNat,m) else none
   |none=>none
  |some ⟨.str,_,_,_⟩,.s b,.i _ z=>some ([0<=z,z<b.size],.i .u8 (byteAt b z.toNat),m)
  |_,_,_=>none
 | .build t ps=>match T t with
  |some ⟨.st fs,_,_,z⟩=>bif known T fs then fP (parts fr ps.toList) λ l=>match buildE T (λ i=>fs[i]?) z l with
    |some (qs,x)=>some (qs,x,m)
    |none=>none
   else none
  |some ⟨.arr _ e,_,_,z⟩=>match T e with
   |some i=>fP (parts fr ps.toList) λ l=>match buildE T (λ j=>some (e,j*i.sz)) z l with
    |some (qs,x)=>some (qs,x,m)
    |none=>none
   |none=>none
  |_=>none
 | .nilCheck x=>match ev fr x with
  | .p r q o=>some ([],.p r q o,m)
  |_=>none
 | .extract x j=>match ev fr x with
  | .tup n f=>bif Nat.blt j n then some ([],f j,m) else none
  |_=>none
 |_=>none
def OpOK(P:Program)(o:Oper)(fr:Nat->Dat)(m:List Root)(v:Dat)(m':List Root):Prop:=
 ∀(N:Nat) (ρ:Rho) (a:Act) (w:World),Frm m.length ρ N fr a.tmps->Rep ρ m w->
  ∃ρ' w' nx,(execOp a.eval o).run P w=.ok nx w'/\((∃u,nx=.value u/\Holds m'.length ρ' v u)\/(nx=.skip/\v=.un))/\Rep ρ' m' w'/\Tr ρ m w ρ' m' w'
theorem ofV_ok{n:Nat}{ρ:Rho}(v:Value):Holds n ρ (ofV v) v:=by
 cases v<;>first|exact .inl rfl|exact .inr ⟨rfl,trivial,trivial,trivial⟩|skip
 case pointer a=>cases a<;>first|exact .inl rfl|exact .inr ⟨rfl,trivial,trivial,trivial⟩
 case slice a l c=>
  cases a with
  |some a=>exact .inl rfl
  |none=>
   cases l with
   |succ l=>exact .inl rfl
   |zero=>cases c<;>first|exact .inl rfl|exact .inr ⟨rfl,trivial,trivial,trivial⟩
theorem ev_ok{n:Nat}{ρ:Rho}{N:Nat}{fr:Nat->Dat}{a:Act}(h:Frm n ρ N fr a.tmps)(x:Operand):Holds n ρ (ev fr x) (a.eval x):=by
 cases x with
 |tmp t=>exact h.slot t
 |const v=>exact ofV_ok v
 |global g=>exact .inl rfl
 |func f=>exact .inr ⟨by simp[ev,enc,leaf,Act.eval],λ i hi=>absurd hi (Nat.not_lt_zero _),trivial,trivial⟩
theorem ev_eq{n:Nat}{ρ:Rho}{N:Nat}{fr:Nat->Dat}{a:Act}(h:Frm n ρ N fr a.tmps){x:Operand}{d:Dat}(he:ev fr x=d)(hd:d≠.un):a.eval x=enc ρ d/\Sc n d/\Ok d:=by
 rcases ev_ok h x with h1|h1
 ·exact absurd (he▸h1) hd
 ·rw[he] at h1;exact h1
def QOK(P:Program)(o:Oper)(fr:Nat->Dat)(m:List Root)(v:Dat)(m':List Root):Prop:=
 ∀(N:Nat) (ρ:Rho) (a:Act),Frm m.length ρ N fr a.tmps->∃u ρ',(∀r,r<m.length->ρ' r []=ρ r [])/\m.length<=m'.length/\∀w,Rep ρ m w->(execOp a.eval o).run P w=.ok (.value u) w/\Holds m'.length ρ' v u/\Rep ρ' m' w/\Tr ρ m w ρ' m' w
theorem QOK.op{P:Program}{o:Oper}{fr:Nat->Dat}{m m':List Root}{v:Dat}(h:QOK P o fr m v m'):OpOK P o fr m v m':=by
 intro N ρ a w hf hr
 obtain⟨u,ρ',_,_,h⟩:=h N ρ a hf
 obtain⟨h1,h2,h3,h4⟩:=h w hr
 exact⟨ρ',w,.value u,h1,.inl ⟨u,rfl,h2⟩,h3,h4⟩
theorem QOK.plain{P:Program}{o:Oper}{fr:Nat->Dat}{m:List Root}{v:Dat}(h:∀(N:Nat) (ρ:Rho) (a:Act),Frm m.length ρ N fr a.tmps->∃u,∀w,Rep ρ m w->(execOp a.eval o).run P w=.ok (.value u) w/\Holds m.length ρ v u):QOK P o fr m v m:=by
 intro N ρ a hf
 obtain⟨u,h⟩:=h N ρ a hf
 exact⟨u,ρ,λ _ _=>rfl,Nat.le_refl _,λ w hr=>⟨(h w hr).1,(h w hr).2,hr,Tr.refl ρ m w⟩⟩
theorem wrap_of_InR:∀{k:IntKind}{x:Int},InR k x->k.wrap x=x:=by
 intro k x h
 cases k<;>simp only[InR] at h<;>simp only[IntKind.wrap,IntKind.bits,IntKind.signed]<;>simp<;>omega
theorem num_ok{wm:Bool}{k:IntKind}{x:Int}(h:AllP (num wm k x).1):(num wm k x).2=.i k (k.wrap x):=by
 cases wm with
 |true=>rfl
 |false=>simp only[num];rw[wrap_of_InR (k:=k) (x:=x) h]
end Go.Proofs.YthjnmlpibafbnaaGreat.DM
