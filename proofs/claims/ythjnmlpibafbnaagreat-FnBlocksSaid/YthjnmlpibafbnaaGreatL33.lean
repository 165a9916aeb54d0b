import Derived.Test.YthjnmlpibafbnaaGreatL4
import Derived.Test.YthjnmlpibafbnaaGreatL20
import Derived.Test.YthjnmlpibafbnaaGreatX6
namespace Go.Proofs.YthjnmlpibafbnaaGreat
open Go.RowKit DM
set_option linter.unusedVariables false
set_option linter.unusedSimpArgs false
theorem two_pow_lt{x:Nat}(h:x<16):2 ^ x<65536:=Nat.pow_lt_pow_right (by decide) h
theorem or_lt{a b:Nat}(ha:a<65536)(hb:b<65536):a|||b<65536:=Nat.or_lt_two_pow (n:=16) ha hb
theorem and_lt{a b:Nat}(ha:a<65536):a&&& b<65536:=Nat.lt_of_le_of_lt Nat.and_le_left ha
theorem or_u32{a b:Nat}(ha:a<65536)(hb:b<65536):IntKind.u32.wrap (((BitVec.ofInt IntKind.u32.bits (a:Int)|||BitVec.ofInt IntKind.u32.bits (b:Int)).toNat:Nat):Int)=((a|||b:Nat):Int):=by
 have h:=or_lt ha hb
 have e:(BitVec.ofInt IntKind.u32.bits (a:Int)|||BitVec.ofInt IntKind.u32.bits (b:Int)).toNat=a|||b:=by
  show(BitVec.ofInt 32 (a:Int)|||BitVec.ofInt 32 (b:Int)).toNat=a|||b
  rw[BitVec.ofInt_natCast,BitVec.ofInt_natCast,BitVec.toNat_or,BitVec.toNat_ofNat,BitVec.toNat_ofNat,Nat.mod_eq_of_lt (by omega),Nat.mod_eq_of_lt (by omega)]
 rw[e]
 exact wrap_of_InR (k:=.u32) (show(0:Int)<=_/\_<=(4294967295:Int) from⟨by omega,by omega⟩)
theorem and_u32{a b:Nat}(ha:a<65536)(hb:b<65536):IntKind.u32.wrap (((BitVec.ofInt IntKind.u32.bits (a:Int)&&& BitVec.ofInt IntKind.u32.bits (b:Int)).toNat:Nat):Int)=((a&&& b:Nat):Int):=by
 have h:=and_lt (b:=b) ha
 have e:(BitVec.ofInt IntKind.u32.bits (a:Int)&&& BitVec.ofInt IntKind.u32.bits (b:Int)).toNat=a&&& b:=by
  show(BitVec.ofInt 32 (a:Int)&&& BitVec.ofInt 32 (b:Int)).toNat=a&&& b
  rw[BitVec.ofInt_natCast,BitVec.ofInt_natCast,BitVec.toNat_and,BitVec.toNat_ofNat,BitVec.toNat_ofNat,Nat.mod_eq_of_lt (by omega),Nat.mod_eq_of_lt (by omega)]
 rw[e]
 exact wrap_of_InR (k:=.u32) (show(0:Int)<=_/\_<=(4294967295:Int) from⟨by omega,by omega⟩)
theorem shl_u32{x:Nat}(h:x<16):IntKind.u32.wrap ((1:Int)*2 ^ (min ((x:Int)).toNat IntKind.u32.bits))=((2 ^ x:Nat):Int):=by
 have h2:=two_pow_lt h
 have e:min ((x:Int)).toNat IntKind.u32.bits=x:=by show min x 32=x;omega
 rw[e,Int.one_mul,show((2:Int) ^ x)=((2 ^ x:Nat):Int) by simp]
 generalize 2 ^ x=m at h2 ⊢
 exact wrap_of_InR (k:=.u32) (show(0:Int)<=_/\_<=(4294967295:Int) from⟨by omega,by omega⟩)
theorem shr_u32{a x:Nat}(h:x<16):((a:Int)).fdiv (2 ^ (min ((x:Int)).toNat IntKind.u32.bits))=((a >>> x:Nat):Int):=by
 have e:min ((x:Int)).toNat IntKind.u32.bits=x:=by show min x 32=x;omega
 rw[e,show((2:Int) ^ x)=((2 ^ x:Nat):Int) by simp,Nat.shiftRight_eq_div_pow,Int.fdiv_eq_ediv_of_nonneg _ (Int.natCast_nonneg _)]
 rfl
theorem bit_one(a x:Nat):decide (((a >>> x&&& 1:Nat):Int)=1)=a.testBit x:=by
 unfold Nat.testBit
 rw[Nat.and_comm]
 have h1:1&&& a >>> x=(a >>> x) % 2:=by rw[Nat.and_comm,Nat.and_one_is_mod]
 rw[h1]
 rcases Nat.mod_two_eq_zero_or_one (a >>> x) with h|h<;>rw[h]<;>rfl
theorem shr_lt{a x:Nat}(h:a<65536):a >>> x<65536:=Nat.lt_of_le_of_lt (Nat.shiftRight_le a x) h
def imgTo(p:Nat->Nat)(S:Nat):Nat->Nat
 |0=>0
 |k+1=>bif S.testBit k then imgTo p S k|||2 ^ p k else imgTo p S k
theorem imgTo_lt{p:Nat->Nat}{S:Nat}:∀k,(∀i,i<k->p i<16)->imgTo p S k<65536
 |0,_=>by simp[imgTo]
 |k+1,h=>by
  have ih:=imgTo_lt (S:=S) k λ i hi=>h i (by omega)
  simp only[imgTo]
  cases S.testBit k with
  |false=>exact ih
  |true=>exact or_lt ih (two_pow_lt (h k (by omega)))
theorem imgTo_bit{p:Nat->Nat}{S y:Nat}:∀k,(imgTo p S k).testBit y=true↔∃x,x<k/\S.testBit x=true/\p x=y
 |0=>by simp[imgTo]
 |k+1=>by
  have ih:=imgTo_bit (p:=p) (S:=S) (y:=y) k
  simp only[imgTo]
  cases hk:S.testBit k with
  |false=>
   rw[cond_false,ih]
   constructor
   ·rintro⟨x,h1,h2⟩;exact⟨x,by omega,h2⟩
   ·rintro⟨x,h1,h2,h3⟩
    have:x≠k:=λ e=>by subst e;rw[hk] at h2;cases h2
    exact⟨x,by omega,h2,h3⟩
  |true=>
   rw[cond_true,Nat.testBit_or,Bool.or_eq_true,ih,Nat.testBit_two_pow]
   constructor
   ·rintro(⟨x,h1,h2⟩|h)
    ·exact⟨x,by omega,h2⟩
    ·exact⟨k,by omega,hk,of_decide_eq_true h⟩
   ·rintro⟨x,h1,h2,h3⟩
    by_cases e:x=k
    ·subst e;exact .inr (decide_eq_true h3)
    ·exact .inl ⟨x,by omega,h2,h3⟩
def img(p:Nat->Nat)(N S:Nat):Nat:=imgTo p S N
def Low(N S:Nat):Prop:=∀x,S.testBit x=true->x<N
theorem img_low{N:Nat}{p:Nat->Nat}(hp:∀i,i<N->p i<N)(S:Nat):Low N (img p N S):=λ y hy=>by
 obtain⟨x,h1,_,rfl⟩:=(imgTo_bit N).1 hy
 exact hp x h1
theorem bits_ext{S T:Nat}(h:∀x,S.testBit x=true↔T.testBit x=true):S=T:=Nat.eq_of_testBit_eq λ i=>by
 have:=h i
 cases e:S.testBit i<;>cases e':T.testBit i
 ·rfl
 ·rw[this.2 e'] at e;cases e
 ·rw[this.1 e] at e';cases e'
 ·rfl
theorem img_one{N S:Nat}(h:Low N S):img (sameF N) N S=S:=bits_ext λ y=>by
 unfold img
 rw[imgTo_bit]
 constructor
 ·rintro⟨x,h1,h2,rfl⟩;rw[one_at h1];exact h2
 ·intro hy;exact⟨y,h y hy,hy,one_at (h y hy)⟩
theorem img_mul{N:Nat}{p q:Nat->Nat}(hp:Np N p)(S:Nat):img (mulF N p q) N S=img q N (img p N S):=bits_ext λ y=>by
 unfold img
 rw[imgTo_bit,imgTo_bit]
 constructor
 ·rintro⟨x,h1,h2,rfl⟩
  rw[mul_at h1]
  exact⟨p x,hp.perm.lt x h1,(imgTo_bit N).2 ⟨x,h1,h2,rfl⟩,rfl⟩
 ·rintro⟨z,h1,h2,rfl⟩
  obtain⟨x,h3,h4,rfl⟩:=(imgTo_bit N).1 h2
  exact⟨x,h3,h4,mul_at h3⟩
theorem img_mono{N:Nat}{p:Nat->Nat}{S T:Nat}(h:∀x,S.testBit x=true->T.testBit x=true):∀x,(img p N S).testBit x=true->(img p N T).testBit x=true:=λ y hy=>by
 obtain⟨x,h1,h2,h3⟩:=(imgTo_bit N).1 hy
 exact(imgTo_bit N).2 ⟨x,h1,h x h2,h3⟩
def Orb(N:Nat)(L:List (Nat->Nat))(B S:Nat):Prop:=∃g,Grp N L g/\S=img g N B
def Meet(S T:Nat):Prop:=∃x,S.testBit x=true/\T.testBit x=true
def Blk(N:Nat)(L:List (Nat->Nat))(B:Nat):Prop:=∀S T,Orb N L B S->Orb N L B T->Meet S T->S=T
section
variable {N:Nat}{L:List (Nat->Nat)}{B:Nat}
theorem Orb.base(h:Low N B):Orb N L B B:=⟨sameF N,.one,(img_one h).symm⟩
theorem Orb.step(hL:∀g∈L,Np N g){S:Nat}(h:Orb N L B S){p:Nat->Nat}(hp:p∈L):Orb N L B (img p N S):=by
 obtain⟨g,h1,rfl⟩:=h
 exact⟨mulF N g p,.mul h1 hp,(img_mul (h1.np hL) B).symm⟩
theorem Orb.low(hL:∀g∈L,Np N g){S:Nat}(h:Orb N L B S):Low N S:=by
 obtain⟨g,h1,rfl⟩:=h
 exact img_low (h1.np hL).perm.lt B
theorem Orb.some(hL:∀g∈L,Np N g)(hB:∃x,x<N/\B.testBit x=true){S:Nat}(h:Orb N L B S):∃x,S.testBit x=true:=by
 obtain⟨g,h1,rfl⟩:=h
 obtain⟨x,h2,h3⟩:=hB
 exact⟨g x,(imgTo_bit N).2 ⟨x,h2,h3,rfl⟩⟩
theorem orb_in(hL:∀g∈L,Np N g)(hB:Low N B){P:Nat->Prop}(h0:P B)(hc:∀S,P S->∀p∈L,P (img p N S)){S:Nat}(h:Orb N L B S):P S:=by
 obtain⟨g,h1,rfl⟩:=h
 induction h1 with
 |one=>rw[img_one hB];exact h0
 |mul h2 hm ih=>rw[img_mul (h2.np hL)];exact hc _ ih _ hm
theorem blk_of(hL:∀g∈L,Np N g)(hB:Low N B){P:Nat->Prop}(h0:P B)(hc:∀S,P S->∀p∈L,P (img p N S))(hd:∀S T,P S->P T->Meet S T->S=T):Blk N L B:=
 λ S T hS hT=>hd S T (orb_in hL hB h0 hc hS) (orb_in hL hB h0 hc hT)
theorem blk_cover(hN:N<=16)(hL:∀g∈L,Np N g)(hB:Low N B)(hBe:∃x,x<N/\B.testBit x=true){P:Nat->Prop}(hO:∀S,P S->Orb N L B S)(hex:∃S,P S)(hd:∀S T,P S->P T->Meet S T->S=T)
  (hs:∀S,P S->∀p∈L,∃T,P T/\∀x,(img p N S).testBit x=true->T.testBit x=true):Blk N L B/\∀S,Orb N L B S->P S:=by
 have sub:∀g,Grp N L g->∀S,P S->∃T,P T/\∀x,(img g N S).testBit x=true->T.testBit x=true:=λ g hg=>by
  induction hg with
  |one=>exact λ S hS=>⟨S,hS,λ x hx=>by rwa [img_one ((hO S hS).low hL)] at hx⟩
  |mul h2 hm ih=>
   intro S hS
   obtain⟨T,hT,h3⟩:=ih S hS
   obtain⟨U,hU,h4⟩:=hs T hT _ hm
   exact⟨U,hU,λ x hx=>h4 x (img_mono h3 x (by rwa [img_mul (h2.np hL)] at hx))⟩
 have eq:∀g,Grp N L g->∀S,P S->P (img g N S):=λ g hg S hS=>by
  have ng:=hg.np hL
  have hi:=hg.inv hN hL
  have ni:=hi.np hL
  obtain⟨T,hT,h1⟩:=sub g hg S hS
  obtain⟨U,hU,h2⟩:=sub _ hi T hT
  have e1:img (backTo g N) N (img g N S)=S:=by
   rw[<-img_mul ng,mul_inv hN ng,img_one ((hO S hS).low hL)]
  have h3:∀x,S.testBit x=true->U.testBit x=true:=λ x hx=>h2 x (img_mono h1 x (by rw[e1];exact hx))
  obtain⟨x,hx⟩:=(hO S hS).some hL hBe
  obtain rfl:=hd S U hS hU ⟨x,hx,h3 x hx⟩
  have e2:img g N (img (backTo g N) N T)=T:=by
   rw[<-img_mul ni,inv_mul hN ng,img_one ((hO T hT).low hL)]
  have h4:∀x,T.testBit x=true->(img g N S).testBit x=true:=λ x hx=>img_mono h2 x (by rw[e2];exact hx)
  rw[bits_ext λ x=>⟨h1 x,h4 x⟩]
  exact hT
 obtain⟨S1,h1⟩:=hex
 obtain⟨g,hg,e⟩:=hO S1 h1
 have hPB:P B:=by
  have:=eq _ (hg.inv hN hL) S1 h1
  rwa [e, <-img_mul (hg.np hL),mul_inv hN (hg.np hL),img_one hB] at this
 have hall:∀S,Orb N L B S->P S:=λ S ⟨g,hg,e⟩=>e▸eq g hg B hPB
 exact⟨λ S T hS hT=>hd S T (hall S hS) (hall T hT),hall⟩
end
end Go.Proofs.YthjnmlpibafbnaaGreat
namespace Go.Proofs.YthjnmlpibafbnaaGreat
open Go.RowKit DM
set_option linter.unusedVariables false
set_option linter.unusedSimpArgs false
def Cl(n:Nat)(p q:Nat->Nat)(S:Nat->Prop):Prop:=∀z,z<n->S z->S (p z)/\S (q z)
structure QB(n x0:Nat)(p q:Nat->Nat)(s:List Nat×(Nat->Bool)):Prop where
 nodup:s.1.Nodup
 met:∀z,s.2 z=true↔z∈s.1
 min:∀S:Nat->Prop,S x0->Cl n p q S->∀z∈s.1,S z
 head:∃l,s.1=x0::l
theorem QB.add{n x0:Nat}{p q:Nat->Nat}{s:List Nat×(Nat->Bool)}(h:QB n x0 p q s){t:Nat}(ht:∀S:Nat->Prop,S x0->Cl n p q S->S t):QB n x0 p q (bst t s)/\t∈(bst t s).1:=by
 unfold bst
 cases hm:s.2 t with
 |true=>exact⟨h,(h.met t).1 hm⟩
 |false=>
  have hn:t∉s.1:=λ hc=>by rw[(h.met t).2 hc] at hm;cases hm
  refine⟨⟨?_,?_,?_,?_⟩,by simp⟩
  ·simp only[cond_false]
   exact List.nodup_append.2 ⟨h.nodup,by simp,λ a ha b hb e=>by simp at hb;subst hb;subst e;exact hn ha⟩
  ·intro z
   simp only[cond_false,up,List.mem_append,List.mem_singleton]
   by_cases e:z=t
   ·subst e;simp
   ·rw[if_neg e];simp[h.met z,e]
  ·intro S h0 hc z hz
   simp only[cond_false,List.mem_append,List.mem_singleton] at hz
   rcases hz with hz|rfl
   ·exact h.min S h0 hc z hz
   ·exact ht S h0 hc
  ·obtain⟨l,e⟩:=h.head
   exact⟨l++[t],by simp[e]⟩
theorem brun_q{n:Nat}(hn:n<=16){p q:Nat->Nat}(hp:∀i,i<n->p i<n)(hq:∀i,i<n->q i<n){x0:Nat}:∀(k i:Nat) (s:List Nat×(Nat->Bool)),BInv n s->bmu i s<=k->i<=s.1.length->QB n x0 p q s->(∀j,j<i->p (s.1.getD j 0)∈s.1/\q (s.1.getD j 0)∈s.1)->QB n x0 p q (brun p q k i s)/\∀z∈(brun p q k i s).1,p z∈(brun p q k i s).1/\q z∈(brun p q k i s).1
 |0,i,s,hI,hk,hi,hQ,hc=>by
  refine⟨hQ,λ z hz=>?_⟩
  simp only[brun] at hz ⊢
  obtain⟨t,ht,rfl⟩:=mem_getD hz
  have:s.1.length<=i:=by unfold bmu at hk;omega
  exact hc t (by omega)
 |k+1,i,s,hI,hk,hi,hQ,hc=>by
  simp only[brun]
  split
  ·rename_i h
   have hx:=hI.get h
   have hm:=getD_mem h
   obtain⟨g1,g2⟩:=bmu_round hn hp hq hI h
   obtain⟨a1,a2⟩:=hQ.add (t:=p (s.1.getD i 0)) λ S h0 hcl=>(hcl _ hx (hQ.min S h0 hcl _ hm)).1
   obtain⟨a3,a4⟩:=a1.add (t:=q (s.1.getD i 0)) λ S h0 hcl=>(hcl _ hx (hQ.min S h0 hcl _ hm)).2
   have p1:=bst_pre (p (s.1.getD i 0)) s
   have p2:=bst_pre (q (s.1.getD i 0)) (bst (p (s.1.getD i 0)) s)
   have p3:=p1.trans p2
   have hl:=p3.length_le
   refine brun_q hn hp hq k (i+1) _ g1 (by omega) (by omega) a3 λ j hj=>?_
   rcases Nat.lt_succ_iff_lt_or_eq.1 hj with hj|rfl
   ·rw[pre_getD p3 (by omega)]
    exact⟨p3.subset (hc j hj).1,p3.subset (hc j hj).2⟩
   ·rw[pre_getD p3 h]
    exact⟨p2.subset a2,a4⟩
  ·rename_i h
   refine⟨hQ,λ z hz=>?_⟩
   obtain⟨t,ht,rfl⟩:=mem_getD hz
   exact hc t (by omega)
theorem bx_q{n x:Nat}{p q:Nat->Nat}:QB n x p q (bx x) where
 nodup:=by simp[bx]
 met z:=by
  simp only[bx,up,List.mem_singleton]
  by_cases e:z=x
  ·subst e;simp
  ·simp[e]
 min S h0 hc z hz:=by simp only[bx,List.mem_singleton] at hz;subst hz;exact h0
 head:=⟨[],rfl⟩
theorem bfs_q{n:Nat}(hn:n<=16){p q:Nat->Nat}(hp:∀i,i<n->p i<n)(hq:∀i,i<n->q i<n){x:Nat}(hx:x<n):QB n x p q (bres p q 0 (bx x))/\∀z∈bfsF p q x,p z∈bfsF p q x/\q z∈bfsF p q x:=
 brun_q hn hp hq _ 0 (bx x) (bx_inv hx hn) (Nat.le_refl _) (Nat.zero_le _) bx_q λ j hj=>absurd hj (Nat.not_lt_zero _)
theorem nodup_sub:∀(l k:List Nat),l.Nodup->(∀x∈l,x∈k)->l.length<=k.length
 |[],_,_,_=>Nat.zero_le _
 |a::l,k,hd,h=>by
  have ha:a∈k:=h a (by simp)
  have hd':=List.nodup_cons.1 hd
  have h1:=nodup_sub l (k.erase a) hd'.2 λ x hx=>(List.mem_erase_of_ne (a:=x) (b:=a) λ e=>hd'.1 (e▸hx)).2 (h x (by simp[hx]))
  have h2:=List.length_erase_of_mem ha
  have h3:0<k.length:=List.length_pos_of_mem ha
  simp only[List.length_cons]
  omega
theorem nodup_all{l:List Nat}{n:Nat}(hd:l.Nodup)(hl:∀x∈l,x<n)(he:l.length=n){x:Nat}(hx:x<n):x∈l:=by
 refine Classical.byContradiction λ h=>?_
 have:=nodup_len n (x::l) (List.nodup_cons.2 ⟨h,hd⟩) λ y hy=>by
  rcases List.mem_cons.1 hy with rfl|hy
  ·exact hx
  ·exact hl y hy
 simp only[List.length_cons] at this
 omega
theorem nodup_maps{l:List Nat}{f:Nat->Nat}(hd:l.Nodup)(h:∀x∈l,∀y∈l,f x=f y->x=y):(l.map f).Nodup:=by
 unfold List.Nodup at*
 rw[List.pairwise_map]
 refine List.Pairwise.imp_of_mem ?_ hd
 intro a b ha hb hne e
 exact hne (h a ha b hb e)
theorem perm_into{n:Nat}{p:Nat->Nat}(hp:Perm n p){G:List Nat}(hd:G.Nodup)(hl:∀z∈G,z<n)(hc:∀z∈G,p z∈G){z:Nat}(hz:z<n)(h:p z∈G):z∈G:=by
 refine Classical.byContradiction λ hn=>?_
 have h1:(p z::G.map p).Nodup:=by
  refine List.nodup_cons.2 ⟨λ hm=>?_,nodup_maps hd λ x hx y hy e=>hp.inj x y (hl x hx) (hl y hy) e⟩
  obtain⟨u,hu,e⟩:=List.mem_map.1 hm
  exact hn (hp.inj u z (hl u hu) hz e▸hu)
 have:=nodup_sub _ G h1 λ x hx=>by
  rcases List.mem_cons.1 hx with rfl|hx
  ·exact h
  ·obtain⟨u,hu,rfl⟩:=List.mem_map.1 hx
   exact hc u hu
 simp at this
 omega
theorem bfs_all{N:Nat}{b w:Nat->Nat}(hD:Des N b w){y:Nat}(hy:y<N):(bfsF b w y).Nodup/\(∀z∈bfsF b w y,z<N)/\(bfsF b w y).length=N/\(∀z,z<N->z∈bfsF b w y)/\(bfsF b w y).getD 0 0=y:=by
 have hp0:0<N:=hD.pos
 obtain⟨q0,c0⟩:=bfs_q hD.le hD.pb.lt hD.pw.lt hp0
 obtain⟨q1,c1⟩:=bfs_q hD.le hD.pb.lt hD.pw.lt hy
 have s0:∀z∈bfsF b w 0,z<N:=(bfsF_inv hD.le hD.pb.lt hD.pw.lt hp0).small
 have s1:∀z∈bfsF b w y,z<N:=(bfsF_inv hD.le hD.pb.lt hD.pw.lt hy).small
 have a0:∀z,z<N->z∈bfsF b w 0:=λ z hz=>nodup_all q0.nodup s0 hD.all hz
 have m0:∀S:Nat->Prop,S 0->Cl N b w S->∀z∈bfsF b w 0,S z:=q0.min
 have d1:(bfsF b w y).Nodup:=q1.nodup
 have hh:∃l,bfsF b w y=y::l:=q1.head
 have hym:y∈bfsF b w y:=by obtain⟨l,e⟩:=hh;rw[e];simp
 have hz0:0∈bfsF b w y:=by
  refine Classical.byContradiction λ h=>?_
  refine m0 (λ z=>z∉bfsF b w y) h (λ z hz hn=>⟨λ hm=>hn ?_,λ hm=>hn ?_⟩) y (a0 y hy) hym
  ·exact perm_into hD.pb d1 s1 (λ u hu=>(c1 u hu).1) hz hm
  ·exact perm_into hD.pw d1 s1 (λ u hu=>(c1 u hu).2) hz hm
 have a1:∀z,z<N->z∈bfsF b w y:=λ z hz=>m0 (λ z=>z∈bfsF b w y) hz0 (λ u _ hu=>c1 u hu) z (a0 z hz)
 refine⟨d1,s1,?_,a1,?_⟩
 ·have h1:=nodup_len N _ d1 s1
  have h2:=nodup_sub (List.range N) (bfsF b w y) List.nodup_range λ x hx=>a1 x (List.mem_range.1 hx)
  rw[List.length_range] at h2
  omega
 ·obtain⟨l,e⟩:=hh;rw[e];rfl
end Go.Proofs.YthjnmlpibafbnaaGreat
namespace Go.Proofs.YthjnmlpibafbnaaGreat
open Go.RowKit DM
set_option linter.unusedVariables false
set_option linter.unusedSimpArgs false
theorem conn_all{N:Nat}{b w:Nat->Nat}(hD:Des N b w){S:Nat->Prop}{y:Nat}(hy:y<N)(h:S y)(hc:Cl N b w S){z:Nat}(hz:z<N):S z:=
 (bfs_q hD.le hD.pb.lt hD.pw.lt hy).1.min S h hc z ((bfs_all hD hy).2.2.2.1 z hz)
def mskTo(p:Nat->Nat):Nat->Nat
 |0=>0
 |k+1=>mskTo p k|||2 ^ p k
theorem msk_lt{p:Nat->Nat}:∀{k},(∀i,i<k->p i<16)->mskTo p k<65536
 |0,_=>by simp[mskTo]
 |k+1,h=>or_lt (msk_lt λ i hi=>h i (by omega)) (two_pow_lt (h k (by omega)))
theorem msk_bit{p:Nat->Nat}{y:Nat}:∀{k},(mskTo p k).testBit y=true↔∃t,t<k/\p t=y
 |0=>by simp[mskTo]
 |k+1=>by
  rw[mskTo,Nat.testBit_or,Bool.or_eq_true,msk_bit (k:=k),Nat.testBit_two_pow]
  constructor
  ·rintro(⟨t,h1,h2⟩|h)
   ·exact⟨t,by omega,h2⟩
   ·exact⟨k,by omega,of_decide_eq_true h⟩
  ·rintro⟨t,h1,h2⟩
   by_cases e:t=k
   ·subst e;exact .inr (decide_eq_true h2)
   ·exact .inl ⟨t,by omega,h2⟩
theorem and_meet{s t:Nat}:s&&& t≠0↔Meet s t:=by
 constructor
 ·intro h
  refine Classical.byContradiction λ hn=>h (Nat.eq_of_testBit_eq λ i=>?_)
  rw[Nat.testBit_and,Nat.zero_testBit]
  cases e:s.testBit i
  ·rfl
  ·cases e':t.testBit i
   ·rfl
   ·exact absurd ⟨i,e,e'⟩ hn
 ·rintro⟨x,h1,h2⟩ h
  have:=congrArg (λ a=>a.testBit x) h
  simp[Nat.testBit_and,h1,h2] at this
theorem apart_len{N:Nat}:∀(l:List Nat),(∀S∈l,∃x,x<N/\S.testBit x=true)->l.Pairwise (λ S T=>¬Meet S T)->∃r:List Nat,r.length=l.length/\r.Nodup/\(∀x∈r,x<N)/\∀x∈r,∃S∈l,S.testBit x=true
 |[],_,_=>⟨[],rfl,.nil,λ _ h=>absurd h List.not_mem_nil,λ _ h=>absurd h List.not_mem_nil⟩
 |S::l,h,hp=>by
  obtain⟨r,h1,h2,h3,h4⟩:=apart_len l (λ T hT=>h T (.tail _ hT)) hp.of_cons
  obtain⟨x,h5,h6⟩:=h S (.head _)
  refine⟨x::r,by simp[h1],List.nodup_cons.2 ⟨λ hx=>?_,h2⟩,λ y hy=>?_,λ y hy=>?_⟩
  ·obtain⟨T,hT,h7⟩:=h4 x hx
   exact(List.pairwise_cons.1 hp).1 T hT ⟨x,h6,h7⟩
  ·rcases List.mem_cons.1 hy with rfl|hy
   ·exact h5
   ·exact h3 y hy
  ·rcases List.mem_cons.1 hy with rfl|hy
   ·exact⟨S,.head _,h6⟩
   ·obtain⟨T,hT,h7⟩:=h4 y hy
    exact⟨T,.tail _ hT,h7⟩
theorem apart_le{N:Nat}{l:List Nat}(h:∀S∈l,∃x,x<N/\S.testBit x=true)(hp:l.Pairwise (λ S T=>¬Meet S T)):l.length<=N:=by
 obtain⟨r,h1,h2,h3,_⟩:=apart_len l h hp
 rw[<-h1]
 exact nodup_len N r h2 h3
def whTo(E:Nat->Nat->Bool):Nat->(Nat->Nat)×Nat
 |0=>(λ _=>0,0)
 |k+1=>if 0<(whTo E k).1 k then whTo E k else(λ y=>if E k y then(whTo E k).2+1 else(whTo E k).1 y,(whTo E k).2+1)
theorem wh_le(E:Nat->Nat->Bool):∀k,(whTo E k).2<=k/\∀y,(whTo E k).1 y<=(whTo E k).2
 |0=>⟨Nat.le_refl _,λ _=>Nat.le_refl _⟩
 |k+1=>by
  obtain⟨h1,h2⟩:=wh_le E k
  simp only[whTo]
  split
  ·exact⟨by omega,h2⟩
  ·refine⟨by simp only;omega,λ y=>?_⟩
   simp only
   have:=h2 y
   split<;>omega
theorem wh_old{E:Nat->Nat->Bool}{k:Nat}(h:0<(whTo E k).1 k):whTo E (k+1)=whTo E k:=by simp only[whTo,if_pos h]
theorem wh_new{E:Nat->Nat->Bool}{k:Nat}(h:¬0<(whTo E k).1 k):whTo E (k+1)=(λ y=>if E k y then(whTo E k).2+1 else(whTo E k).1 y,(whTo E k).2+1):=by simp only[whTo,if_neg h]
theorem wh_pos{E:Nat->Nat->Bool}:∀{k},(∀x,x<k->E x x=true)->∀y,y<k->0<(whTo E k).1 y
 |0,_,y,h=>absurd h (Nat.not_lt_zero _)
 |k+1,h,y,hy=>by
  have ih:=wh_pos (k:=k) λ x hx=>h x (by omega)
  by_cases e:0<(whTo E k).1 k
  ·rw[wh_old e]
   by_cases e2:y=k
   ·subst e2;exact e
   ·exact ih y (by omega)
  ·rw[wh_new e]
   simp only
   split
   ·omega
   ·rename_i hE
    by_cases e2:y=k
    ·subst e2;exact absurd (h y (by omega)) hE
    ·exact ih y (by omega)
noncomputable def blkE (N:Nat)(L:List (Nat->Nat))(B:Nat)(x y:Nat):Bool:=@decide (∃S,Orb N L B S/\S.testBit x=true/\S.testBit y=true) (Classical.propDecidable _)
theorem blkE_iff{N:Nat}{L:List (Nat->Nat)}{B x y:Nat}:blkE N L B x y=true↔∃S,Orb N L B S/\S.testBit x=true/\S.testBit y=true:=by
 unfold blkE;exact @decide_eq_true_iff _ (Classical.propDecidable _)
theorem blkE_blk{N:Nat}{L:List (Nat->Nat)}{B:Nat}(h:Blk N L B){S x:Nat}(hS:Orb N L B S)(hx:S.testBit x=true)(y:Nat):blkE N L B x y=S.testBit y:=by
 rw[Bool.eq_iff_iff,blkE_iff]
 constructor
 ·rintro⟨T,hT,h1,h2⟩
  rw[h S T hS hT ⟨x,hx,h1⟩];exact h2
 ·exact λ hy=>⟨S,hS,hx,hy⟩
noncomputable def qF (N:Nat)(L:List (Nat->Nat))(B:Nat)(y:Nat):Nat:=(whTo (blkE N L B) N).1 y-1
noncomputable def qM (N:Nat)(L:List (Nat->Nat))(B:Nat):Nat:=(whTo (blkE N L B) N).2
theorem qF_lt{N:Nat}{L:List (Nat->Nat)}{B:Nat}(hN:N<=16)(y:Nat):qF N L B y<16:=by
 have h:=wh_le (blkE N L B) N
 have:=h.2 y
 unfold qF
 omega
def bitsL(S k:Nat):List Nat:=(List.range k).filter λ i=>S.testBit i
theorem bits_hit{S k:Nat}(h:S.testBit k=true):bitsL S (k+1)=bitsL S k++[k]:=by unfold bitsL;rw[List.range_succ,List.filter_append];simp[h]
theorem bits_miss{S k:Nat}(h:S.testBit k=false):bitsL S (k+1)=bitsL S k:=by unfold bitsL;rw[List.range_succ,List.filter_append];simp[h]
theorem bits_len(S k:Nat):(bitsL S k).length<=k:=by
 have:=List.length_filter_le (λ i=>S.testBit i) (List.range k)
 rwa [List.length_range] at this
theorem bits_mem{S k x:Nat}:x∈bitsL S k↔x<k/\S.testBit x=true:=by unfold bitsL;simp
end Go.Proofs.YthjnmlpibafbnaaGreat
namespace Go.Proofs.YthjnmlpibafbnaaGreat
open Go.RowKit DM
set_option linter.unusedVariables false
set_option linter.unusedSimpArgs false
theorem low_lt{N S:Nat}(hN:N<=16)(h:Low N S):S<65536:=by
 refine Nat.lt_pow_two_of_testBit (n:=16) S λ i hi=>?_
 cases e:S.testBit i
 ·rfl
 ·have:=h i e;omega
theorem bit_u32{a x:Nat}(ha:a<65536)(hx:x<16):decide (IntKind.u32.wrap (((BitVec.ofInt IntKind.u32.bits (((a:Nat):Int).fdiv (2 ^ min ((x:Nat):Int).toNat IntKind.u32.bits))&&& BitVec.ofInt IntKind.u32.bits 1).toNat:Nat):Int)=1)=a.testBit x:=by
 rw[shr_u32 hx]
 have h:=and_u32 (a:=a >>> x) (b:=1) (shr_lt ha) (by decide)
 rw[show((1:Nat):Int)=1 from rfl] at h
 rw[h,bit_one]
theorem meet_u32{a b:Nat}(ha:a<65536)(hb:b<65536):((!decide (IntKind.u32.wrap (((BitVec.ofInt IntKind.u32.bits ((a:Nat):Int)&&& BitVec.ofInt IntKind.u32.bits ((b:Nat):Int)).toNat:Nat):Int)=0))=true)↔Meet a b:=by
 rw[and_u32 ha hb, <-and_meet]
 simp only[Bool.not_eq_true',decide_eq_false_iff_not,ne_eq,Int.natCast_eq_zero]
structure Bf(N:Nat)(L:List (Nat->Nat))(B:Nat)(l:List Nat):Prop where
 orb:∀S∈l,Orb N L B S
 apart:l.Pairwise λ S T=>¬Meet S T
 base:B∈l
theorem Bf.start{N:Nat}{L:List (Nat->Nat)}{B:Nat}(h:Low N B):Bf N L B [B] where
 orb S hS:=by rw[List.mem_singleton.1 hS];exact .base h
 apart:=List.pairwise_singleton _ _
 base:=.head _
theorem Bf.add{N:Nat}{L:List (Nat->Nat)}{B:Nat}{l:List Nat}(h:Bf N L B l){S:Nat}(hS:Orb N L B S)(hn:∀T∈l,¬Meet T S):Bf N L B (l++[S]) where
 orb T hT:=by
  rcases List.mem_append.1 hT with hT|hT
  ·exact h.orb T hT
  ·rw[List.mem_singleton.1 hT];exact hS
 apart:=List.pairwise_append.2 ⟨h.apart,List.pairwise_singleton _ _,λ T hT U hU=>by rw[List.mem_singleton.1 hU];exact hn T hT⟩
 base:=List.mem_append.2 (.inl h.base)
theorem Bf.len{N:Nat}{L:List (Nat->Nat)}{B:Nat}{l:List Nat}(h:Bf N L B l)(hL:∀g∈L,Np N g)(hB:∃x,x<N/\B.testBit x=true):l.length<=N:=
 apart_le (λ S hS=>by
  obtain⟨x,hx⟩:=(h.orb S hS).some hL hB
  exact⟨x,(h.orb S hS).low hL x hx,hx⟩) h.apart
theorem Bf.low{N:Nat}{L:List (Nat->Nat)}{B:Nat}{l:List Nat}(h:Bf N L B l)(hL:∀g∈L,Np N g){i:Nat}(hi:i<l.length):Low N (l.getD i 0):=(h.orb _ (getD_mem hi)).low hL
theorem meet_comm{S T:Nat}(h:Meet S T):Meet T S:=by obtain⟨x,h1,h2⟩:=h;exact⟨x,h2,h1⟩
theorem Bf.same{N:Nat}{L:List (Nat->Nat)}{B:Nat}{l:List Nat}(h:Bf N L B l){S T:Nat}(hS:S∈l)(hT:T∈l)(hm:Meet S T):S=T:=by
 obtain⟨i,hi,e1⟩:=mem_getD hS
 obtain⟨j,hj,e2⟩:=mem_getD hT
 have hp:=List.pairwise_iff_getElem.1 h.apart
 have g1:l[i]=S:=by rw[<-e1,List.getD_eq_getElem?_getD,List.getElem?_eq_getElem hi];rfl
 have g2:l[j]=T:=by rw[<-e2,List.getD_eq_getElem?_getD,List.getElem?_eq_getElem hj];rfl
 rcases Nat.lt_trichotomy i j with h1|h1|h1
 ·exact absurd (g1▸g2▸hm) (hp i j hi hj h1)
 ·subst h1;rw[<-g1, <-g2]
 ·exact absurd (g2▸g1▸meet_comm hm) (hp j i hj hi h1)
theorem Bf.done{N:Nat}{b w:Nat->Nat}{B:Nat}{l:List Nat}(h:Bf N [b,w] B l)(hL:∀g∈[b,w],Np N g)(hB:Low N B)(hc:∀i,i<l.length->img b N (l.getD i 0)∈l/\img w N (l.getD i 0)∈l):Blk N [b,w] B/\∀S,Orb N [b,w] B S↔S∈l:=by
 have hcl:∀S,S∈l->∀p∈[b,w],img p N S∈l:=λ S hS p hp=>by
  obtain⟨i,hi,rfl⟩:=mem_getD hS
  rcases List.mem_cons.1 hp with rfl|hp
  ·exact(hc i hi).1
  ·rw[List.mem_singleton.1 hp];exact(hc i hi).2
 exact⟨blk_of hL hB (P:=λ S=>S∈l) h.base hcl λ S T hS hT hm=>h.same hS hT hm,λ S=>⟨λ hS=>orb_in hL hB (P:=λ S=>S∈l) h.base hcl hS,h.orb S⟩⟩
theorem Bf.not{N:Nat}{L:List (Nat->Nat)}{B:Nat}{l:List Nat}(h:Bf N L B l){S T:Nat}(hS:S∈l)(hT:Orb N L B T)(hm:Meet S T)(hn:T∉l):¬Blk N L B:=λ hb=>hn (hb S T (h.orb S hS) hT hm▸hS)
def hit(l:List Nat)(x y:Nat):Nat->Bool
 |0=>false
 |c+1=>hit l x y c||((l.getD c 0).testBit x&&(l.getD c 0).testBit y)
theorem hit_iff{l:List Nat}{x y:Nat}:∀c,hit l x y c=true↔∃j,j<c/\(l.getD j 0).testBit x=true/\(l.getD j 0).testBit y=true
 |0=>by simp[hit]
 |c+1=>by
  rw[hit,Bool.or_eq_true,hit_iff c,Bool.and_eq_true]
  constructor
  ·rintro(⟨j,h1,h2⟩|h)
   ·exact⟨j,by omega,h2⟩
   ·exact⟨c,by omega,h⟩
  ·rintro⟨j,h1,h2⟩
   by_cases e:j=c
   ·subst e;exact .inr h2
   ·exact .inl ⟨j,by omega,h2⟩
theorem hit_end{N:Nat}{L:List (Nat->Nat)}{B:Nat}{l:List Nat}(h:∀S,Orb N L B S↔S∈l)(x y:Nat):hit l x y l.length=blkE N L B x y:=by
 rw[Bool.eq_iff_iff,blkE_iff,hit_iff]
 constructor
 ·rintro⟨j,h1,h2⟩;exact⟨_,(h _).2 (getD_mem h1),h2⟩
 ·rintro⟨S,h1,h2⟩
  obtain⟨j,hj,rfl⟩:=mem_getD ((h S).1 h1)
  exact⟨j,hj,h2⟩
def ptH(l:List Nat)(x many:Nat)(old:Nat->Nat)(c y t:Nat):Nat:=if hit l x t c||(decide (t<y)&&((l.getD c 0).testBit x&&(l.getD c 0).testBit t)) then many+1 else old t
theorem ptH_zero(l:List Nat)(x many:Nat)(old:Nat->Nat)(t:Nat):ptH l x many old 0 0 t=old t:=by simp[ptH,hit]
theorem ptH_hit{l:List Nat}{x many:Nat}{old:Nat->Nat}{c y:Nat}(h1:(l.getD c 0).testBit x=true)(h2:(l.getD c 0).testBit y=true)(t:Nat):ptH l x many old c (y+1) t=if t=y then many+1 else ptH l x many old c y t:=by
 unfold ptH
 by_cases e:t=y
 ·subst e;rw[if_pos (rfl:t=t),h1,h2,decide_eq_true (Nat.lt_succ_self _)];simp
 ·have e2:decide (t<y+1)=decide (t<y):=by by_cases h:t<y<;>simp[h]<;>omega
  rw[if_neg e,e2]
theorem ptH_miss{l:List Nat}{x many:Nat}{old:Nat->Nat}{c y:Nat}(h:((l.getD c 0).testBit x&&(l.getD c 0).testBit y)=false)(t:Nat):ptH l x many old c (y+1) t=ptH l x many old c y t:=by
 unfold ptH
 by_cases e:t=y
 ·subst e;rw[h];simp
 ·have e2:decide (t<y+1)=decide (t<y):=by by_cases h:t<y<;>simp[h]<;>omega
  rw[e2]
theorem ptH_next(l:List Nat)(x many:Nat)(old:Nat->Nat)(c N t:Nat)(ht:t<N):ptH l x many old c N t=ptH l x many old (c+1) 0 t:=by
 unfold ptH
 rw[hit,decide_eq_true ht]
 simp
end Go.Proofs.YthjnmlpibafbnaaGreat
