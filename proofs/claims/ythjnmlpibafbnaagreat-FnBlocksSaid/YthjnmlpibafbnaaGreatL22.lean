import Derived.Test.YthjnmlpibafbnaaGreatL17
import Derived.Test.YthjnmlpibafbnaaGreatL4
import Derived.Test.YthjnmlpibafbnaaGreatL33
namespace Go.Proofs.YthjnmlpibafbnaaGreat
open Go.RowKit DM
set_option linter.unusedVariables false
section
variable {N M:Nat}{b w b' w':Nat->Nat}
theorem des_all(hD:Des N b w){x:Nat}(hx:x<N){S:Nat->Prop}(h0:S x)(hS:Cl N b w S){z:Nat}(hz:z<N):S z:=
 (bfs_q hD.le hD.pb.lt hD.pw.lt hx).1.min S h0 hS z ((bfs_all hD hx).2.2.2.1 z hz)
theorem eqv_onto(hD:Des N b w)(hD':Des M b' w'){f:Nat->Nat}(hf:Eqv N b w b' w' f)(hl:∀x,x<N->f x<M){z:Nat}(hz:z<M):∃x,x<N/\f x=z:=
 des_all hD' (hl 0 hD.pos) (S:=λ z=>∃x,x<N/\f x=z) ⟨0,hD.pos,rfl⟩ (λ z hz ⟨x,hx,e⟩=>⟨⟨b x,hD.pb.lt x hx,by rw[(hf x hx).1,e]⟩,⟨w x,hD.pw.lt x hx,by rw[(hf x hx).2,e]⟩⟩) hz
theorem iso_of(hD:Des N b w)(hD':Des N b' w'){y:Nat}(hy:y<N)(h:isoB N b w b' w' y=true):Perm N (isoP N b w b' w' y)/\isoP N b w b' w' y 0=y/\Eqv N b w b' w' (isoP N b w b' w' y)/\∀i,N<=i->isoP N b w b' w' y i=0:=by
 rcases iso_step hD hD' hy with⟨_,e⟩|⟨o,r,_,h1,h2⟩
 ·rw[h] at e;cases e
 rcases mor_spec hD hD'.pb.lt hD'.pw.lt hy with⟨r',_⟩|⟨o',r',h0,h3,_⟩
 ·rw[r] at r';cases r'
 obtain rfl:o=o':=Option.some.inj (r.symm.trans r')
 have hin:∀x,x<N->isoP N b w b' w' y x=(o x).toNat:=λ x hx=>by
  rw[h2];show(if x<N then(o x).toNat else 0)=_;rw[if_pos hx]
 have hlt:∀x,x<N->isoP N b w b' w' y x<N:=λ x hx=>by rw[hin x hx];have:=h1 x hx;omega
 have heq:Eqv N b w b' w' (isoP N b w b' w' y):=λ x hx=>by
  have h4:=(h3 x hx).2.2
  rw[hin _ (hD.pb.lt x hx),hin _ (hD.pw.lt x hx),hin x hx,h4.1,h4.2]
  exact⟨Int.toNat_natCast _,Int.toNat_natCast _⟩
 refine⟨⟨hlt,inj_of_onto λ z hz=>eqv_onto hD hD' heq hlt hz⟩,?_,heq,λ i hi=>?_⟩
 ·rw[hin 0 hD.pos,h0];exact Int.toNat_natCast _
 ·rw[h2];show(if i<N then(o i).toNat else 0)=0;rw[if_neg (by omega)]
theorem iso_true(hD:Des N b w)(hD':Des N b' w'){y:Nat}(hy:y<N){f:Nat->Nat}(h0:f 0=y)(hf:Eqv N b w b' w' f):isoB N b w b' w' y=true:=by
 rcases iso_step hD hD' hy with⟨r,_⟩|⟨o,_,e,_⟩
 ·rcases mor_spec hD hD'.pb.lt hD'.pw.lt hy with⟨_,hno⟩|⟨o',r',_⟩
  ·exact absurd (hno f h0 hf) id
  ·rw[r] at r';cases r'
 ·exact e
theorem isoL_map(N:Nat)(b w b' w':Nat->Nat):∀k,isoL N b w b' w' k=((List.range k).filter (isoB N b w b' w')).map (isoP N b w b' w')
 |0=>rfl
 |k+1=>by
  rw[List.range_succ,List.filter_append,List.map_append, <-isoL_map N b w b' w' k]
  simp only[isoL,List.filter_cons,List.filter_nil]
  cases isoB N b w b' w' k<;>simp
theorem isoL_count(N:Nat)(b w b' w':Nat->Nat):(isoL N b w b' w' N).length=((List.range N).filter (isoB N b w b' w')).length:=by rw[isoL_map,List.length_map]
end
theorem len_filter_split(f:Nat->Bool):∀l:List Nat,l.length=(l.filter f).length+(l.filter λ x=>!f x).length
 |[]=>rfl
 |x::l=>by
  have:=len_filter_split f l
  simp only[List.filter_cons,List.length_cons]
  cases f x<;>simp<;>omega
section
variable {N:Nat}{b w:Nat->Nat}
def AutR(N:Nat)(b w:Nat->Nat)(x z:Nat):Prop:=∃f,Perm N f/\Eqv N b w b w f/\f x=z
theorem AutR.trans{x y z:Nat}(h:AutR N b w x y)(h':AutR N b w y z):AutR N b w x z:=by
 obtain⟨f,hf,he,rfl⟩:=h
 obtain⟨g,hg,hk,rfl⟩:=h'
 refine⟨λ x=>g (f x),⟨λ i hi=>hg.lt _ (hf.lt i hi),λ i j hi hj e=>hf.inj i j hi hj (hg.inj _ _ (hf.lt i hi) (hf.lt j hj) e)⟩,λ x hx=>?_,rfl⟩
 have h1:=he x hx
 have h2:=hk (f x) (hf.lt x hx)
 show g (f (b x))=b (g (f x))/\g (f (w x))=w (g (f x))
 rw[h1.1,h1.2]
 exact h2
theorem AutR.symm(hD:Des N b w){x y:Nat}(hx:x<N)(h:AutR N b w x y):AutR N b w y x:=by
 obtain⟨f,hf,he,rfl⟩:=h
 have hb:∀i,i<N->backTo f N (f i)=i:=λ i hi=>backTo_at hf N (Nat.le_refl _) i hi
 refine⟨backTo f N,perm_back hD.le hf,λ z hz=>?_,hb x hx⟩
 obtain⟨u,hu,rfl⟩:=perm_surj hD.le hf hz
 rw[<-(he u hu).1, <-(he u hu).2,hb u hu,hb _ (hD.pb.lt u hu),hb _ (hD.pw.lt u hu)]
 exact⟨rfl,rfl⟩
end
end Go.Proofs.YthjnmlpibafbnaaGreat

namespace Go.Proofs.YthjnmlpibafbnaaGreat
open Go.RowKit DM
set_option linter.unusedVariables false
theorem des_mk{n:Nat}{b w:Nat->Nat}(h1:1<=n)(h2:n<=16)(hb:Perm n b)(hw:Perm n w)(h:∀S:Nat->Prop,S 0->Cl n b w S->∀z,z<n->S z):Des n b w:=by
 refine⟨h1,h2,hb,hw,?_⟩
 obtain⟨q,c⟩:=bfs_q h2 hb.lt hw.lt (show 0<n from h1)
 have hs:∀z∈bfsF b w 0,z<n:=(bfsF_inv h2 hb.lt hw.lt (show 0<n from h1)).small
 have hm:0∈bfsF b w 0:=by obtain⟨l,e⟩:=(show∃l,bfsF b w 0=0::l from q.head);rw[e];simp
 have ha:=h (λ z=>z∈bfsF b w 0) hm λ z _ hz=>c z hz
 have l1:=nodup_len n (bfsF b w 0) q.nodup hs
 have l2:=nodup_sub (List.range n) (bfsF b w 0) List.nodup_range λ z hz=>ha z (List.mem_range.1 hz)
 rw[List.length_range] at l2
 exact Nat.le_antisymm l1 l2
theorem desB_mk{n:Nat}{b w:Nat->Nat}(hD:Des n b w)(hb:∀i,n<=i->b i=0)(hw:∀i,n<=i->w i=0):desB n b w=true:=by
 have pB:∀{p:Nat->Nat},Perm n p->(∀i,n<=i->p i=0)->permB p n=true:=λ hp hz=>permB_true hD.pos hD.le λ i _=>⟨λ hi=>⟨hp.lt i hi,λ j hj e=>by have:=hp.inj j i (by omega) hi e;omega⟩,λ hi=>hz i hi⟩
 unfold desB
 rw[pB hD.pb hb,pB hD.pw hw,decide_eq_true (by rw[hD.all])]
 rfl
theorem sum_fibers{c:Nat}(f:Nat->Nat):∀(m:Nat) (l:List Nat),(∀x∈l,f x<m)->(∀r,r<m->(l.filter λ x=>decide (f x=r)).length=c)->l.length=m*c
 |0,l,hf,_=>by
  cases l with
  |nil=>simp
  |cons a l=>exact absurd (hf a (List.mem_cons_self ..)) (Nat.not_lt_zero _)
 |m+1,l,hf,h=>by
  have ih:=sum_fibers (c:=c) f m (l.filter λ x=>!decide (f x=m)) (λ x hx=>by
   rw[List.mem_filter] at hx
   have h1:=hf x hx.1
   have h2:f x≠m:=by simpa using hx.2
   omega) λ r hr=>by
   rw[List.filter_filter]
   have e:(l.filter λ x=>decide (f x=r)&&!decide (f x=m))=l.filter λ x=>decide (f x=r):=List.filter_congr λ x _=>by
    by_cases c:f x=r
    ·rw[decide_eq_true c,decide_eq_false (by omega:¬f x=m)];rfl
    ·rw[decide_eq_false c];rfl
   rw[e];exact h r (by omega)
  rw[len_filter_split (λ x=>decide (f x=m)) l,h m (Nat.lt_succ_self _),ih,Nat.succ_mul];omega
section
variable {N M:Nat}{b w b' w':Nat->Nat}
def fibN(N:Nat)(f:Nat->Nat)(z:Nat):Nat:=((List.range N).filter λ x=>decide (f x=z)).length
theorem fib_le{f v v':Nat->Nat}(hv:Perm N v)(h:∀x,x<N->f (v x)=v' (f x))(z:Nat):fibN N f z<=fibN N f (v' z):=by
 have hn:(((List.range N).filter λ x=>decide (f x=z)).map v).Nodup:=by
  unfold List.Nodup
  rw[List.pairwise_map]
  refine List.Pairwise.imp_of_mem (λ{x y} hx hy hne e=>hne ?_) (List.nodup_range.filter _)
  rw[List.mem_filter,List.mem_range] at hx hy
  exact hv.inj x y hx.1 hy.1 e
 have:=nodup_sub _ ((List.range N).filter λ x=>decide (f x=v' z)) hn λ y hy=>by
  obtain⟨x,hx,rfl⟩:=List.mem_map.1 hy
  rw[List.mem_filter,List.mem_range,decide_eq_true_eq] at hx
  exact List.mem_filter.2 ⟨List.mem_range.2 (hv.lt x hx.1),decide_eq_true (by rw[h x hx.1,hx.2])⟩
 rwa [List.length_map] at this
theorem fib_all(hD:Des N b w)(hD':Des M b' w'){f:Nat->Nat}(hf:Eqv N b w b' w' f){x y:Nat}(hx:x<M)(hy:y<M):fibN N f x<=fibN N f y:=
 des_all hD' hx (S:=λ y=>fibN N f x<=fibN N f y) (Nat.le_refl _) (λ z hz h=>⟨Nat.le_trans h (fib_le hD.pb (λ x hx=>(hf x hx).1) z),Nat.le_trans h (fib_le hD.pw (λ x hx=>(hf x hx).2) z)⟩) hy
theorem fib_count(hD:Des N b w)(hD':Des M b' w'){f:Nat->Nat}(hf:Eqv N b w b' w' f)(hl:∀x,x<N->f x<M){z:Nat}(hz:z<M):fibN N f z*M=N:=by
 have:=sum_fibers (c:=fibN N f z) f M (List.range N) (λ x hx=>hl x (List.mem_range.1 hx)) λ r hr=>Nat.le_antisymm (fib_all hD hD' hf hr hz) (fib_all hD hD' hf hz hr)
 rw[List.length_range] at this
 rw[Nat.mul_comm];exact this.symm
end
section
variable {N:Nat}{b w p:Nat->Nat}
end
end Go.Proofs.YthjnmlpibafbnaaGreat

namespace Go.Proofs.YthjnmlpibafbnaaGreat
open Go.RowKit DM
set_option linter.unusedVariables false
noncomputable def dP (p:Prop):Bool:=@decide p (Classical.propDecidable p)
theorem dP_iff{p:Prop}:dP p=true↔p:=@decide_eq_true_iff p (Classical.propDecidable p)
theorem dP_t{p:Prop}(h:p):dP p=true:=dP_iff.2 h
theorem lst_of{P:Nat->Prop}:∀m,P m->∃k,k<=m/\P k/\∀j,j<k->¬P j:=by
 intro m
 induction m using Nat.strongRecOn with
 |ind m ih=>
  intro h
  by_cases c:∃j,j<m/\P j
  ·obtain⟨j,hj,hp⟩:=c
   obtain⟨k,h1,h2,h3⟩:=ih j hj hp
   exact⟨k,by omega,h2,h3⟩
  ·exact⟨m,Nat.le_refl _,h,λ j hj hp=>c ⟨j,hj,hp⟩⟩
theorem perm_onto{n:Nat}{p:Nat->Nat}(hp:Perm n p){x:Nat}(hx:x<n):∃y,y<n/\p y=x:=by
 have hd:((List.range n).map p).Nodup:=by
  unfold List.Nodup
  rw[List.pairwise_map]
  exact List.Pairwise.imp_of_mem (λ hx hy hne e=>hne (hp.inj _ _ (List.mem_range.1 hx) (List.mem_range.1 hy) e)) List.nodup_range
 have:=nodup_all hd (λ y hy=>by obtain⟨u,hu,rfl⟩:=List.mem_map.1 hy;exact hp.lt u (List.mem_range.1 hu)) (by rw[List.length_map,List.length_range]) hx
 obtain⟨u,hu,e⟩:=List.mem_map.1 this
 exact⟨u,List.mem_range.1 hu,e⟩
theorem it_back{n:Nat}{p:Nat->Nat}(hp:Perm n p){x:Nat}(hx:x<n):∃m,1<=m/\itF p m x=x/\∀j,1<=j->j<m->itF p j x≠x:=by
 let G:=(List.range n).filter λ y=>dP (∃k,itF p k x=y)
 have hG:∀y,y∈G↔y<n/\∃k,itF p k x=y:=λ y=>by rw[List.mem_filter,List.mem_range,dP_iff]
 obtain⟨z,hz,e⟩:=perm_onto hp hx
 have hzG:=perm_into hp (G:=G) (List.nodup_range.filter _) (λ y hy=>((hG y).1 hy).1) (λ y hy=>by
  obtain⟨h1,k,rfl⟩:=(hG y).1 hy
  exact(hG _).2 ⟨hp.lt _ h1,k+1,rfl⟩) hz (by rw[e];exact(hG x).2 ⟨hx,0,rfl⟩)
 obtain⟨_,k,hk⟩:=(hG z).1 hzG
 obtain⟨m,_,⟨h1,h2⟩,h3⟩:=lst_of (P:=λ m=>1<=m/\itF p m x=x) (k+1) ⟨by omega,by show p (itF p k x)=x;rw[hk,e]⟩
 exact⟨m,h1,h2,λ j hj hjm e=>h3 j hjm ⟨hj,e⟩⟩
noncomputable def clN (R:Nat->Nat->Prop)(n:Nat):Nat:=((List.range n).filter λ x=>dP (∀y,y<n->R x y->x<=y)).length
def RelOf(I:(Nat->Prop)->Prop)(x y:Nat):Prop:=∀S,I S->(S x↔S y)
theorem RelOf.refl{I:(Nat->Prop)->Prop}(x:Nat):RelOf I x x:=λ _ _=>Iff.rfl
theorem RelOf.symm{I:(Nat->Prop)->Prop}{x y:Nat}(h:RelOf I x y):RelOf I y x:=λ S hS=>(h S hS).symm
theorem RelOf.trans{I:(Nat->Prop)->Prop}{x y z:Nat}(h:RelOf I x y)(h':RelOf I y z):RelOf I x z:=λ S hS=>(h S hS).trans (h' S hS)
theorem filter_mono{f g:Nat->Bool}(h:∀x,f x=true->g x=true):∀l:List Nat,(l.filter f).length<=(l.filter g).length
 |[]=>Nat.le_refl _
 |x::l=>by
  have:=filter_mono h l
  simp only[List.filter_cons]
  cases c:f x with
  |true=>rw[h x c];simp only[if_true,List.length_cons];omega
  |false=>
   split
   ·rename_i h;cases h
   ·split
    ·simp only[List.length_cons];omega
    ·exact this
theorem clN_mono{R R':Nat->Nat->Prop}{n:Nat}(h:∀x y,x<n->y<n->R x y->R' x y):clN R' n<=clN R n:=by
 unfold clN
 have key:((List.range n).filter λ x=>dP (∀y,y<n->R' x y->x<=y)).length=((List.range n).filter λ x=>dP (x<n/\∀y,y<n->R' x y->x<=y)).length:=by
  congr 1
  refine List.filter_congr λ x hx=>?_
  rw[Bool.eq_iff_iff,dP_iff,dP_iff]
  exact⟨λ h=>⟨List.mem_range.1 hx,h⟩,λ h=>h.2⟩
 rw[key]
 exact filter_mono (λ x hx=>by
  rw[dP_iff] at*
  exact λ y hy hr=>hx.2 y hy (h x y hx.1 hy hr)) _
theorem clN_congr{R R':Nat->Nat->Prop}{n:Nat}(h:∀x y,x<n->y<n->(R x y↔R' x y)):clN R n=clN R' n:=
 Nat.le_antisymm (clN_mono λ x y hx hy=>(h x y hx hy).2) (clN_mono λ x y hx hy=>(h x y hx hy).1)
theorem leader{R:Nat->Nat->Prop}{n x:Nat}(hx:x<n)(hr:R x x):∃l,l<n/\R x l/\∀y,y<n->R x y->l<=y:=by
 obtain⟨k,h1,h2,h3⟩:=lst_of (P:=λ l=>R x l) x hr
 exact⟨k,by omega,h2,λ y hy hr=>Classical.byContradiction λ hc=>h3 y (by omega) hr⟩
theorem filter_lt{f g:Nat->Bool}{n m:Nat}(hm:m<n)(h:∀x,x<n->f x=true->g x=true)(hf:f m=false)(hg:g m=true):((List.range n).filter f).length+1<=((List.range n).filter g).length:=by
 have hnd:(m::(List.range n).filter f).Nodup:=List.nodup_cons.2 ⟨λ hc=>by rw[List.mem_filter,hf] at hc;exact absurd hc.2 (by simp),List.nodup_range.filter _⟩
 have:=nodup_sub _ ((List.range n).filter g) hnd λ x hx=>by
  rcases List.mem_cons.1 hx with rfl|hx
  ·exact List.mem_filter.2 ⟨List.mem_range.2 hm,hg⟩
  ·rw[List.mem_filter] at hx
   exact List.mem_filter.2 ⟨hx.1,h x (List.mem_range.1 hx.1) hx.2⟩
 rwa [List.length_cons] at this
theorem filter_gt{f g:Nat->Bool}{n m:Nat}(h:∀x,x<n->x≠m->f x=true->g x=true):((List.range n).filter f).length<=((List.range n).filter g).length+1:=by
 have:=nodup_sub ((List.range n).filter f) (m::(List.range n).filter g) (List.nodup_range.filter _) λ x hx=>by
  rw[List.mem_filter] at hx
  by_cases e:x=m
  ·subst e;exact List.mem_cons_self ..
  ·exact List.mem_cons_of_mem _ (List.mem_filter.2 ⟨hx.1,h x (List.mem_range.1 hx.1) e hx.2⟩)
 rwa [List.length_cons] at this
theorem clN_less{I J:(Nat->Prop)->Prop}{n a c:Nat}(ha:a<n)(hc:c<n)(hIJ:∀S,J S->I S)(hac:∀S,J S->(S a↔S c))(hno:¬RelOf I a c):clN (RelOf J) n+1<=clN (RelOf I) n:=by
 have sub:∀{x y},RelOf I x y->RelOf J x y:=λ h S hS=>h S (hIJ S hS)
 have hJ:RelOf J a c:=hac
 obtain⟨la,h1,h2,h3⟩:=leader (R:=RelOf I) ha (.refl a)
 obtain⟨lc,g1,g2,g3⟩:=leader (R:=RelOf I) hc (.refl c)
 have hne:la≠lc:=λ e=>hno (h2.trans (e▸g2.symm))
 have hll:RelOf J la lc:=(sub h2).symm.trans (hJ.trans (sub g2))
 have mono:∀x,x<n->dP (∀y,y<n->RelOf J x y->x<=y)=true->dP (∀y,y<n->RelOf I x y->x<=y)=true:=λ x _ hx=>by
  rw[dP_iff] at*
  exact λ y hy hr=>hx y hy (sub hr)
 by_cases hlt:la<lc
 ·exact filter_lt g1 mono (by
   cases e:dP (∀y,y<n->RelOf J lc y->lc<=y) with
   |false=>rfl
   |true=>have:=dP_iff.1 e la h1 hll.symm;omega) (dP_t λ y hy hr=>g3 y hy (g2.trans hr))
 ·exact filter_lt h1 mono (by
   cases e:dP (∀y,y<n->RelOf J la y->la<=y) with
   |false=>rfl
   |true=>have:=dP_iff.1 e lc g1 hll;omega) (dP_t λ y hy hr=>h3 y hy (h2.trans hr))
theorem clN_more{I:(Nat->Prop)->Prop}{R':Nat->Nat->Prop}{n a c:Nat}(ha:a<n)(hc:c<n)(hI:∀x y z:Nat,I λ u=>RelOf I x u\/(RelOf I x a/\RelOf I c u)\/(RelOf I x c/\RelOf I a u))
  (h:∀x y,R' x y->∀S,I S->(S a↔S c)->(S x↔S y)):clN (RelOf I) n<=clN R' n+1:=by
 have cas:∀x y,R' x y->RelOf I x y\/(RelOf I x a/\RelOf I c y)\/(RelOf I x c/\RelOf I a y):=λ x y hr=>by
  refine(h x y hr _ (hI x 0 0) ⟨λ hs=>?_,λ hs=>?_⟩).1 (.inl (.refl x))
  ·rcases hs with hs|⟨h1,h2⟩|⟨h1,h2⟩
   ·exact .inr (.inl ⟨hs,.refl c⟩)
   ·exact .inr (.inl ⟨h1,.refl c⟩)
   ·exact .inl h1
  ·rcases hs with hs|⟨h1,h2⟩|⟨h1,h2⟩
   ·exact .inr (.inr ⟨hs,.refl a⟩)
   ·exact .inl h1
   ·exact .inr (.inr ⟨h1,.refl a⟩)
 obtain⟨la,h1,h2,h3⟩:=leader (R:=RelOf I) ha (.refl a)
 obtain⟨lc,g1,g2,g3⟩:=leader (R:=RelOf I) hc (.refl c)
 refine filter_gt (m:=max la lc) λ x hx hne hl=>?_
 have hl:=dP_iff.1 hl
 refine dP_t λ y hy hr=>?_
 rcases cas x y hr with hr|⟨r1,r2⟩|⟨r1,r2⟩
 ·exact hl y hy hr
 ·have e1:x<=la:=hl la h1 (r1.trans h2)
  have e2:=h3 x hx r1.symm
  have e3:=g3 y hy r2
  omega
 ·have e1:x<=lc:=hl lc g1 (r1.trans g2)
  have e2:=g3 x hx r1.symm
  have e3:=h3 y hy r2
  omega
def InvP(n:Nat)(p:Nat->Nat)(S:Nat->Prop):Prop:=∀z,z<n->(S (p z)↔S z)
def InvT(n:Nat)(b w:Nat->Nat)(S:Nat->Prop):Prop:=InvP n b S/\InvP n w S
section
variable {n:Nat}
theorem it_inv{p:Nat->Nat}(hp:Perm n p){S:Nat->Prop}(hS:InvP n p S){x:Nat}(hx:x<n):∀k,(S (itF p k x)↔S x)
 |0=>Iff.rfl
 |k+1=>(hS _ (it_lt hp.lt hx k)).trans (it_inv hp hS hx k)
theorem orb_inv{p:Nat->Nat}(hp:Perm n p){x:Nat}(hx:x<n):InvP n p λ y=>∃k,itF p k x=y:=λ z hz=>by
 constructor
 ·rintro⟨k,e⟩
  cases k with
  |zero=>
   obtain⟨m,h1,h2,_⟩:=it_back hp hx
   obtain⟨m,rfl⟩:∃k,m=k+1:=⟨m-1,by omega⟩
   exact⟨m,hp.inj _ _ (it_lt hp.lt hx m) hz (h2.trans e)⟩
  |succ k=>exact⟨k,hp.inj _ _ (it_lt hp.lt hx k) hz e⟩
 ·rintro⟨k,rfl⟩;exact⟨k+1,rfl⟩
theorem ld_cl{p:Nat->Nat}(hp:Perm n p):ldF p n=clN (RelOf (InvP n p)) n:=by
 have h1:∀m,ldF p m=((List.range m).filter λ x=>dP (Ldr p x)).length:=by
  intro m
  induction m with
  |zero=>rfl
  |succ m ih=>
   rw[List.range_succ,List.filter_append,List.length_append, <-ih]
   show ldF p m+(@ite Nat (Ldr p m) (Classical.propDecidable _) 1 0)=_
   by_cases c:Ldr p m
   ·rw[if_pos c,List.filter_cons,dP_t c];rfl
   ·rw[if_neg c,List.filter_cons]
    have:dP (Ldr p m)=false:=by cases e:dP (Ldr p m) with|false=>rfl|true=>exact absurd (dP_iff.1 e) c
    rw[this];rfl
 rw[h1]
 unfold clN
 congr 1
 refine List.filter_congr λ x hx=>?_
 have hx:=List.mem_range.1 hx
 rw[Bool.eq_iff_iff,dP_iff,dP_iff]
 constructor
 ·intro h y hy hr
  obtain⟨k,e⟩:=(hr _ (orb_inv hp hx)).1 ⟨0,rfl⟩
  rw[<-e];exact h k
 ·intro h k
  exact h _ (it_lt hp.lt hx k) λ S hS=>(it_inv hp hS hx k).symm
theorem rel_inv{p:Nat->Nat}{I:(Nat->Prop)->Prop}(hI:∀S,I S->InvP n p S)(x:Nat):InvP n p (RelOf I x):=λ z hz=>
 ⟨λ h=>h.trans λ S hS=>hI S hS z hz,λ h=>h.trans λ S hS=>(hI S hS z hz).symm⟩
theorem or_inv{p:Nat->Nat}{I:(Nat->Prop)->Prop}(hI:∀S,I S->InvP n p S)(x a c:Nat):InvP n p λ u=>RelOf I x u\/(RelOf I x a/\RelOf I c u)\/(RelOf I x c/\RelOf I a u):=λ z hz=>by
 have h1:=rel_inv hI x z hz
 have h2:=rel_inv hI c z hz
 have h3:=rel_inv hI a z hz
 show(RelOf I x (p z)\/(RelOf I x a/\RelOf I c (p z))\/(RelOf I x c/\RelOf I a (p z)))↔_
 rw[h1,h2,h3]
theorem tr_inv{a c:Nat}{S:Nat->Prop}(h:S a↔S c)(x:Nat):S (trF a c x)↔S x:=by
 unfold trF
 split
 ·rename_i e;subst e;exact h.symm
 ·split
  ·rename_i e;subst e;exact h
  ·exact Iff.rfl
theorem tr_join{p:Nat->Nat}(hp:Perm n p){a c:Nat}(ha:a<n)(hc:c<n)(hno:¬RelOf (InvP n p) a c){S:Nat->Prop}(hS:InvP n (λ x=>trF a c (p x)) S):InvP n p S/\(S a↔S c):=by
 obtain⟨m,h1,h2,h3⟩:=it_back hp ha
 have walk:∀k,k<m->(S (itF p k a)↔S a):=by
  intro k
  induction k with
  |zero=>intro _;exact Iff.rfl
  |succ k ih=>
   intro hk
   have e1:=hS (itF p k a) (it_lt hp.lt ha k)
   have na:p (itF p k a)≠a:=h3 (k+1) (by omega) hk
   have nc:p (itF p k a)≠c:=λ e=>hno λ T hT=>by
    have:=it_inv hp hT ha (k+1)
    rw[show itF p (k+1) a=c from e] at this
    exact this.symm
   have e2:(λ x=>trF a c (p x)) (itF p k a)=p (itF p k a):=tr_o na nc
   rw[e2] at e1
   exact e1.trans (ih (by omega))
 obtain⟨m,rfl⟩:∃k,m=k+1:=⟨m-1,by omega⟩
 have e1:=hS (itF p m a) (it_lt hp.lt ha m)
 have e2:(λ x=>trF a c (p x)) (itF p m a)=c:=by
  show trF a c (p (itF p m a))=c
  rw[show p (itF p m a)=a from h2];exact tr_a a c
 rw[e2] at e1
 have hac:S a↔S c:=(walk m (by omega)).symm.trans e1.symm
 exact⟨λ z hz=>(tr_inv hac (p z)).symm.trans (hS z hz),hac⟩
theorem tr_cl_less{p:Nat->Nat}(hp:Perm n p){a c:Nat}(ha:a<n)(hc:c<n)(hno:¬RelOf (InvP n p) a c):ldF (λ x=>trF a c (p x)) n+1<=ldF p n:=by
 rw[ld_cl hp,ld_cl (tr_perm ha hc hp)]
 exact clN_less ha hc (λ S hS=>(tr_join hp ha hc hno hS).1) (λ S hS=>(tr_join hp ha hc hno hS).2) hno
theorem tr_cl_more{p:Nat->Nat}(hp:Perm n p){a c:Nat}(ha:a<n)(hc:c<n):ldF (λ x=>trF a c (p x)) n<=ldF p n+1:=by
 rw[ld_cl hp,ld_cl (tr_perm ha hc hp)]
 refine clN_more ha hc (λ x _ _=>or_inv (λ S hS=>hS) x a c) λ x y hr S hS hac=>?_
 exact hr S λ z hz=>(tr_inv hac (p z)).symm.trans (hS z hz)
theorem all_fixed{w:Nat->Nat}(hw:Perm n w)(h:∀a,a<n->w a=a):ldF w n=n:=by
 have h1:=sg_ld n hw
 rw[sg_id n h] at h1
 omega
theorem ree{b:Nat->Nat}(hb:Perm n b):∀(s:Nat) (w:Nat->Nat),Perm n w->n-ldF w n=s->ldF b n+ldF w n+ldF (λ x=>w (b x)) n<=n+2*clN (RelOf (InvT n b w)) n:=by
 intro s
 induction s with
 |zero=>
  intro w hw hs
  have hle:ldF w n=n:=by have:=sg_ld n hw;omega
  have hfix:∀a,a<n->w a=a:=λ a ha=>by
   have hall:∀x,x<n->∀y,y<n->RelOf (InvP n w) x y->x<=y:=λ x hx=>by
    rw[ld_cl hw] at hle
    have:=List.length_filter_eq_length_iff.1 (hle.trans List.length_range.symm) x (List.mem_range.2 hx)
    exact dP_iff.1 this
   have hr:RelOf (InvP n w) a (w a):=λ S hS=>(hS a ha).symm
   have h1:=hall a ha _ (hw.lt a ha) hr
   have h2:=hall _ (hw.lt a ha) a ha hr.symm
   omega
  have e1:ldF (λ x=>w (b x)) n=ldF b n:=by
   rw[ld_cl hb,ld_cl (perm_comp hw hb)]
   refine clN_congr λ x y _ _=>?_
   have:∀S,InvP n (λ x=>w (b x)) S↔InvP n b S:=λ S=>by
    constructor
    ·intro h z hz;have:=h z hz;rwa [show(λ x=>w (b x)) z=b z from hfix _ (hb.lt z hz)] at this
    ·intro h z hz;rw[show(λ x=>w (b x)) z=b z from hfix _ (hb.lt z hz)];exact h z hz
   exact⟨λ h S hS=>h S ((this S).2 hS),λ h S hS=>h S ((this S).1 hS)⟩
  have e2:ldF b n<=clN (RelOf (InvT n b w)) n:=by
   rw[ld_cl hb]
   exact clN_mono λ x y _ _ h S hS=>h S ⟨hS,λ z hz=>by rw[hfix z hz]⟩
  omega
 |succ s ih=>
  intro w hw hs
  obtain⟨a,ha,hne⟩:∃a,a<n/\w a≠a:=Classical.byContradiction λ hc=>by
   have:=all_fixed hw λ a ha=>Classical.byContradiction λ h=>hc ⟨a,ha,h⟩
   omega
  have hc:w a<n:=hw.lt a ha
  generalize hcc:w a=c at*
  have hw':=tr_perm ha hc hw
  have ww:∀x,trF a c (trF a c (w x))=w x:=λ x=>tr_tr a c (w x)
  have hwa:(λ x=>trF a c (w x)) a=a:=by show trF a c (w a)=a;rw[hcc];exact tr_b a c
  have hno:¬RelOf (InvP n λ x=>trF a c (w x)) a c:=λ hr=>by
   have:=(hr (λ z=>z=a) λ z hz=>⟨λ h=>hw'.inj z a hz ha (h.trans hwa.symm),λ h=>by rw[h];exact hwa⟩).1 rfl
   exact hne this
  have l1:=tr_cl_less hw' ha hc hno
  have l2:=tr_cl_more hw ha hc
  have e0:(λ x=>trF a c ((λ x=>trF a c (w x)) x))=w:=funext ww
  rw[e0] at l1
  have hb1:=ih _ hw' (by omega)
  have hp':=perm_comp hw' hb
  have e3:(λ x=>trF a c ((λ x=>(λ x=>trF a c (w x)) (b x)) x))=λ x=>w (b x):=funext λ x=>ww (b x)
  by_cases hO:RelOf (InvT n b λ x=>trF a c (w x)) a c
  ·have l3:=tr_cl_more hp' ha hc
   rw[e3] at l3
   have l4:clN (RelOf (InvT n b λ x=>trF a c (w x))) n<=clN (RelOf (InvT n b w)) n:=
    clN_mono λ x y _ _ h S hS=>h S ⟨hS.1,λ z hz=>by
     have h2:=hS.2 z hz
     have h3:=(tr_inv (hO S hS) (trF a c (w z))).trans h2
     rwa [ww] at h3⟩
   omega
  ·have l3:=tr_cl_less hp' ha hc λ hr=>hO λ S hS=>hr S λ z hz=>(hS.2 (b z) (hb.lt z hz)).trans (hS.1 z hz)
   rw[e3] at l3
   have l4:clN (RelOf (InvT n b λ x=>trF a c (w x))) n<=clN (RelOf (InvT n b w)) n+1:=by
    refine clN_more ha hc (λ x _ _=>⟨or_inv (λ S hS=>hS.1) x a c,or_inv (λ S hS=>hS.2) x a c⟩) λ x y hr S hS hac=>?_
    refine hr S ⟨hS.1,λ z hz=>?_⟩
    have h2:=hS.2 z hz
    exact(tr_inv hac (w z)).symm.trans h2
   omega
theorem ree_one{b w:Nat->Nat}(hb:Perm n b)(hw:Perm n w)(h:∀x y,x<n->y<n->RelOf (InvT n b w) x y):ldF b n+ldF w n+ldF (λ x=>w (b x)) n<=n+2:=by
 have h1:=ree hb _ w hw rfl
 have h2:clN (RelOf (InvT n b w)) n<=1:=by
  have:=filter_gt (n:=n) (m:=0) (f:=λ x=>dP (∀y,y<n->RelOf (InvT n b w) x y->x<=y)) (g:=λ _=>false) λ x hx hne hl=>by
   have:=dP_iff.1 hl 0 (by omega) (h x 0 hx (by omega))
   omega
  have e:((List.range n).filter λ _=>false)=[]:=List.filter_eq_nil_iff.2 λ _ _=>by simp
  rw[e] at this
  exact this
 omega
end
end Go.Proofs.YthjnmlpibafbnaaGreat

namespace Go.Proofs.YthjnmlpibafbnaaGreat
open Go.RowKit DM
set_option linter.unusedVariables false
set_option linter.unusedSimpArgs false
def freeF(has:Nat->Nat->Bool):Nat->Nat
 |0=>0
 |n+1=>freeF has n+cntU 16 (has n)
theorem free_le(has:Nat->Nat->Bool):∀n,freeF has n<=16*n
 |0=>Nat.le_refl _
 |n+1=>by
  have h1:=free_le has n
  have h2:=cntU_le 16 (has n)
  simp only[freeF];omega
theorem free_same{has has':Nat->Nat->Bool}:∀n,(∀i,i<n->has i=has' i)->freeF has n=freeF has' n
 |0,_=>rfl
 |n+1,h=>by simp only[freeF];rw[free_same n λ i hi=>h i (by omega),h n (by omega)]
theorem free_up{has:Nat->Nat->Bool}{l y:Nat}(hy:y<16)(h:has l y=false):∀n,l<n->freeF has n=freeF (up2 has l y true) n+1
 |0,hl=>absurd hl (Nat.not_lt_zero _)
 |n+1,hl=>by
  simp only[freeF]
  have row:∀i,i≠l->up2 has l y true i=has i:=λ i hi=>by funext k;exact up2_ne _ _ λ e=>hi e.1
  by_cases e:l=n
  ·subst e
   have h1:up2 has l y true l=up (has l) y true:=by
    funext k;unfold up2 up
    by_cases ek:k=y
    ·rw[if_pos ⟨rfl,ek⟩,if_pos ek]
    ·rw[if_neg λ e=>ek e.2,if_neg ek]
   rw[h1,cntU_up hy h,free_same l λ i hi=>row i (by omega)];omega
  ·rw[row n (λ e2=>e e2.symm),free_up hy h n (by omega)];omega
structure Fill(n:Nat)(gens:List (Nat->Nat))(has:Nat->Nat->Bool)(tab:Nat->Nat->Nat->Nat)(E todo:List (Nat->Nat)):Prop where
 T:TblOk n has tab
 inG:∀i k,i<n->has i k=true->Grp n gens (tab i k)
 ent:∀i k,i<n->has i k=true->tab i k=sameF n\/tab i k∈E
 els:∀p∈E,Grp n gens p
 prs:∀p∈E,∀q∈E,InT n has tab n (mulF n p q)\/mulF n p q∈todo
 gen:∀g∈gens,InT n has tab n g\/g∈todo
 tod:∀p∈todo,Grp n gens p
 len:E.length+freeF has n<=256
 mem:600*freeF has n+todo.length<=200000
def has0(n i k:Nat):Bool:=decide (i=k)&&decide (i<n)
def tab0(n i k:Nat):Nat->Nat:=if i=k/\i<n then sameF n else λ _=>0
theorem has0_t{n i k:Nat}(h:has0 n i k=true):i=k/\i<n:=by
 simpa[has0] using h
theorem tbl0(n:Nat):TblOk n (has0 n) (tab0 n) where
 diag i hi:=⟨by simp[has0,hi],by unfold tab0;rw[if_pos ⟨rfl,hi⟩]⟩
 lt i k hi h:=by have:=has0_t h;omega
 np i k hi h:=by unfold tab0;rw[if_pos (has0_t h)];exact one_np n
 fix i k hi h j hj:=by unfold tab0;rw[if_pos (has0_t h)];exact one_at (by omega)
 at_ i k hi h:=by unfold tab0;rw[if_pos (has0_t h),one_at hi];exact(has0_t h).1
theorem Fill.start{n:Nat}(hn:n<=16){gens:List (Nat->Nat)}(hg:∀g∈gens,Np n g)(hl:gens.length<=1000):Fill n gens (has0 n) (tab0 n) [] gens where
 T:=tbl0 n
 inG i k hi h:=by unfold tab0;rw[if_pos (has0_t h)];exact .one
 ent i k hi h:=.inl (by unfold tab0;rw[if_pos (has0_t h)])
 els p hp:=by cases hp
 prs p hp:=by cases hp
 gen g h:=.inr h
 tod p hp:=.gen hg hp
 len:=by have:=free_le (has0 n) n;simp only[List.length_nil];omega
 mem:=by have:=free_le (has0 n) n;omega
theorem Fill.np{n:Nat}{gens:List (Nat->Nat)}(hg:∀g∈gens,Np n g){has:Nat->Nat->Bool}{tab:Nat->Nat->Nat->Nat}{E todo:List (Nat->Nat)}(h:Fill n gens has tab E todo){p:Nat->Nat}(hp:p∈todo):Np n p:=(h.tod p hp).np hg
theorem sift_top{n:Nat}(hn:n<=16){has:Nat->Nat->Bool}{tab:Nat->Nat->Nat->Nat}(hT:TblOk n has tab){p:Nat->Nat}(hp:Np n p):((siftF n has tab n p).2=n/\InT n has tab n p)\/Left n has tab n p (siftF n has tab n p).1 (siftF n has tab n p).2:=
 sift_ok hn hT n (Nat.le_refl _) p hp λ j hj=>absurd hj (by omega)
theorem Fill.skip{n:Nat}(hn:n<=16){gens:List (Nat->Nat)}(hg:∀g∈gens,Np n g){has:Nat->Nat->Bool}{tab:Nat->Nat->Nat->Nat}{E T:List (Nat->Nat)}{p:Nat->Nat}(h:Fill n gens has tab E (T++[p]))(hs:(siftF n has tab n p).2=n):Fill n gens has tab E T:=by
 have hp:InT n has tab n p:=by
  rcases sift_top hn h.T (h.np hg (p:=p) (by simp)) with⟨_,h1⟩|h1
  ·exact h1
  ·have:=h1.lt;omega
 have old:∀q,InT n has tab n q\/q∈T++[p]->InT n has tab n q\/q∈T:=λ q hq=>by
  rcases hq with hq|hq
  ·exact .inl hq
  ·rcases List.mem_append.1 hq with hq|hq
   ·exact .inr hq
   ·simp only[List.mem_singleton] at hq
    subst hq;exact .inl hp
 refine⟨h.T,h.inG,h.ent,h.els,λ a ha b hb=>old _ (h.prs a ha b hb),λ g hgm=>old _ (h.gen g hgm),λ q hq=>h.tod q (by simp[hq]),h.len,?_⟩
 have:=h.mem
 simp only[List.length_append,List.length_singleton] at this
 omega
def both(n:Nat)(r:Nat->Nat)(T E:List (Nat->Nat)):Nat->List (Nat->Nat)
 |0=>T
 |k+1=>both n r T E k++[mulF n r (E.getD k λ _=>0),mulF n (E.getD k λ _=>0) r]
theorem both_len(n:Nat)(r:Nat->Nat)(T E:List (Nat->Nat)):∀k,(both n r T E k).length=T.length+2*k
 |0=>rfl
 |k+1=>by simp only[both,List.length_append,both_len n r T E k,List.length_cons,List.length_nil];omega
theorem both_mem{n:Nat}{r:Nat->Nat}{T E:List (Nat->Nat)}:∀{k:Nat}{q:Nat->Nat},q∈both n r T E k↔q∈T\/∃j,j<k/\(q=mulF n r (E.getD j λ _=>0)\/q=mulF n (E.getD j λ _=>0) r)
 |0,q=>by simp[both]
 |k+1,q=>by
  simp only[both,List.mem_append,both_mem (k:=k),List.mem_cons,List.not_mem_nil,or_false]
  constructor
  ·rintro((h|⟨j,hj,h⟩)|h)
   ·exact .inl h
   ·exact .inr ⟨j,by omega,h⟩
   ·exact .inr ⟨k,by omega,h⟩
  ·rintro(h|⟨j,hj,h⟩)
   ·exact .inl (.inl h)
   ·by_cases e:j=k
    ·subst e;exact .inr h
    ·exact .inl (.inr ⟨j,by omega,h⟩)
theorem mem_getDf{L:List (Nat->Nat)}{q:Nat->Nat}(h:q∈L):∃j,j<L.length/\L.getD j (λ _=>0)=q:=by
 obtain⟨j,hj,e⟩:=List.getElem_of_mem h
 exact⟨j,hj,by rw[List.getD_eq_getElem?_getD,List.getElem?_eq_getElem hj];exact e⟩
theorem getDf_mem{L:List (Nat->Nat)}{j:Nat}(h:j<L.length):L.getD j (λ _=>0)∈L:=by
 rw[List.getD_eq_getElem?_getD,List.getElem?_eq_getElem h];exact List.getElem_mem h
theorem Fill.grow{n:Nat}(hn:n<=16){gens:List (Nat->Nat)}(hg:∀g∈gens,Np n g){has:Nat->Nat->Bool}{tab:Nat->Nat->Nat->Nat}{E T:List (Nat->Nat)}{p r:Nat->Nat}{l:Nat}(h:Fill n gens has tab E (T++[p]))(hs:siftF n has tab n p=(r,l))(hl:l≠n):
  l<n/\Np n r/\r l<n/\E.length<256/\Fill n gens (up2 has l (r l) true) (up2 tab l (r l) r) (E++[r]) (both n r T (E++[r]) (E.length+1))/\600*freeF (up2 has l (r l) true) n+600<=600*freeF has n:=by
 have hp:Left n has tab n p r l:=by
  rcases sift_top hn h.T (h.np hg (p:=p) (by simp)) with⟨h1,_⟩|h1
  ·rw[hs] at h1;exact absurd h1 hl
  ·rw[hs] at h1;exact h1
 have hrG:Grp n gens r:=hp.grp gens hg h.inG (h.tod p (by simp))
 obtain⟨hT',hE⟩:=tbl_add h.T hp.lt hp.np hp.fix hp.no
 have hrl:=hp.np.perm.lt l hp.lt
 have hfree:=free_up (has:=has) (l:=l) (y:=r l) (by omega) hp.no n hp.lt
 have hpn:InT n (up2 has l (r l) true) (up2 tab l (r l) r) n p:=hp.new _ _ hT' hE (up2_same _ _ _ _) (up2_same _ _ _ _)
 have hlen:=h.len
 have hmem:=h.mem
 have old:∀q,InT n has tab n q\/q∈T++[p]->InT n (up2 has l (r l) true) (up2 tab l (r l) r) n q\/q∈both n r T (E++[r]) (E.length+1):=λ q hq=>by
  rcases hq with hq|hq
  ·exact .inl (InT.ext hE (Nat.le_refl _) hq)
  ·rcases List.mem_append.1 hq with hq|hq
   ·exact .inr (both_mem.2 (.inl hq))
   ·simp only[List.mem_singleton] at hq
    subst hq;exact .inl hpn
 have new:∀q∈E++[r],mulF n r q∈both n r T (E++[r]) (E.length+1)/\mulF n q r∈both n r T (E++[r]) (E.length+1):=λ q hq=>by
  obtain⟨j,hj,e⟩:=mem_getDf hq
  simp only[List.length_append,List.length_singleton] at hj
  subst e
  exact⟨both_mem.2 (.inr ⟨j,hj,.inl rfl⟩),both_mem.2 (.inr ⟨j,hj,.inr rfl⟩)⟩
 have hElG:∀q∈E++[r],Grp n gens q:=λ q hq=>by
  rcases List.mem_append.1 hq with hq|hq
  ·exact h.els q hq
  ·simp only[List.mem_singleton] at hq
   subst hq;exact hrG
 refine⟨hp.lt,hp.np,hrl,by omega,⟨hT',λ i k hi hk=>?_,λ i k hi hk=>?_,hElG,λ a ha b hb=>?_,λ g hgm=>old g (h.gen g hgm),λ q hq=>?_,?_,?_⟩,by omega⟩
 ·by_cases e:i=l/\k=r l
  ·obtain⟨rfl,rfl⟩:=e;rw[up2_same];exact hrG
  ·rw[up2_ne _ _ e] at hk ⊢;exact h.inG i k hi hk
 ·by_cases e:i=l/\k=r l
  ·obtain⟨rfl,rfl⟩:=e;rw[up2_same];exact .inr (by simp)
  ·rw[up2_ne _ _ e] at hk ⊢
   rcases h.ent i k hi hk with h1|h1
   ·exact .inl h1
   ·exact .inr (by simp[h1])
 ·rcases List.mem_append.1 ha with ha'|ha'
  ·rcases List.mem_append.1 hb with hb'|hb'
   ·exact old _ (h.prs a ha' b hb')
   ·simp only[List.mem_singleton] at hb'
    subst hb';exact .inr (new a ha).2
  ·simp only[List.mem_singleton] at ha'
   subst ha';exact .inr (new b hb).1
 ·rcases both_mem.1 hq with hq|⟨j,hj,e|e⟩
  ·exact h.tod q (by simp[hq])
  ·have:=hElG _ (getDf_mem (L:=E++[r]) (j:=j) (by simp;omega))
   rw[e];exact hrG.comp hg this
  ·have:=hElG _ (getDf_mem (L:=E++[r]) (j:=j) (by simp;omega))
   rw[e];exact this.comp hg hrG
 ·simp only[List.length_append,List.length_singleton];omega
 ·rw[both_len]
  simp only[List.length_append,List.length_singleton] at hmem
  omega
theorem Fill.done{n:Nat}(hn:n<=16){gens:List (Nat->Nat)}(hg:∀g∈gens,Np n g){has:Nat->Nat->Bool}{tab:Nat->Nat->Nat->Nat}{E:List (Nat->Nat)}(h:Fill n gens has tab E []):Tells n gens has/\∀g,Np n g->(InT n has tab n g↔Grp n gens g):=by
 have hall:∀g,Grp n gens g->InT n has tab n g:=by
  refine tbl_all hn h.T (λ i k j l hi hj hk hl=>?_) λ g hgm=>?_
  ·have up_to:∀i k,i<n->has i k=true->InT n has tab n (tab i k):=λ i k hi hk=>by
    have h1:=InT.entry hn h.T (d:=n-i-1) (k:=k) (by omega) (by rw[show n-(n-i-1+1)=i by omega];exact hk)
    rw[show n-(n-i-1+1)=i by omega] at h1
    have ups:∀e d r,d+e<=n->InT n has tab d r->InT n has tab (d+e) r:=λ e=>by
     induction e with
     |zero=>intro d r _ h;exact h
     |succ e ih=>intro d r hd h2;exact InT.up hn h.T (by omega) (ih d r (by omega) h2)
    have:=ups i (n-i-1+1) _ (by omega) h1
    rwa [show n-i-1+1+i=n by omega] at this
   rcases h.ent i k hi hk with e|e
   ·rw[e,one_mul (h.T.np j l hj hl)];exact up_to j l hj hl
   ·rcases h.ent j l hj hl with e2|e2
    ·rw[e2,mul_one (h.T.np i k hi hk)];exact up_to i k hi hk
    ·rcases h.prs _ e _ e2 with h1|h1
     ·exact h1
     ·cases h1
  ·rcases h.gen g hgm with h1|h1
   ·exact h1
   ·cases h1
 exact⟨tells_of hn h.T hg h.inG hall,λ g _=>⟨λ h1=>InT.grp h.T hg h.inG (Nat.le_refl _) h1,hall g⟩⟩
end Go.Proofs.YthjnmlpibafbnaaGreat
