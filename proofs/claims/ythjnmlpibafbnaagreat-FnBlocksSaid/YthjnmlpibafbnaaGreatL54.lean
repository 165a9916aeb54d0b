import Derived.Test.YthjnmlpibafbnaaGreatL22
import Derived.Test.YthjnmlpibafbnaaGreatL45
import Derived.Test.YthjnmlpibafbnaaGreatL33
import Derived.Test.YthjnmlpibafbnaaGreatL17
namespace Go.Proofs.YthjnmlpibafbnaaGreat
open Go.RowKit DM
set_option linter.unusedVariables false
theorem len_le_fibers{k:Nat}(g:Nat->Nat):∀(Rs l:List Nat),(∀x∈l,g x∈Rs)->(∀r∈Rs,(l.filter λ x=>decide (g x=r)).length<=k)->l.length<=Rs.length*k
 |[],l,hf,_=>by
  cases l with
  |nil=>simp
  |cons a l=>exact absurd (hf a (List.mem_cons_self ..)) (by simp)
 |r::Rs,l,hf,h=>by
  have ih:=len_le_fibers (k:=k) g Rs (l.filter λ x=>!decide (g x=r)) (λ x hx=>by
   rw[List.mem_filter] at hx
   have h2:g x≠r:=by simpa using hx.2
   exact(List.mem_cons.1 (hf x hx.1)).resolve_left h2) λ r' hr'=>by
   rw[List.filter_filter]
   exact Nat.le_trans (filter_mono (λ x hx=>by
    simp only[Bool.and_eq_true] at hx
    exact hx.1) l) (h r' (List.mem_cons_of_mem _ hr'))
  have h1:=h r (List.mem_cons_self ..)
  rw[len_filter_split (λ x=>decide (g x=r)) l,List.length_cons,Nat.succ_mul];omega
theorem len_ge_fibers{k:Nat}(g:Nat->Nat):∀(Rs l:List Nat),Rs.Nodup->(∀r∈Rs,k<=(l.filter λ x=>decide (g x=r)).length)->Rs.length*k<=l.length
 |[],l,_,_=>by simp
 |r::Rs,l,hn,h=>by
  have ih:=len_ge_fibers (k:=k) g Rs (l.filter λ x=>!decide (g x=r)) (List.nodup_cons.1 hn).2 λ r' hr'=>by
   rw[List.filter_filter]
   have hne:r'≠r:=λ e=>(List.nodup_cons.1 hn).1 (e▸hr')
   have e:(l.filter λ x=>decide (g x=r')&&!decide (g x=r))=l.filter λ x=>decide (g x=r'):=List.filter_congr λ x _=>by
    by_cases c:g x=r'
    ·rw[decide_eq_true c,decide_eq_false (by omega:¬g x=r)];rfl
    ·rw[decide_eq_false c];rfl
   rw[e];exact h r' (List.mem_cons_of_mem _ hr')
  have h1:=h r (List.mem_cons_self ..)
  rw[len_filter_split (λ x=>decide (g x=r)) l,List.length_cons,Nat.succ_mul];omega
section
variable {n:Nat}{p:Nat->Nat}
theorem ld_list(p:Nat->Nat):∀m,ldF p m=((List.range m).filter λ x=>dP (Ldr p x)).length
 |0=>rfl
 |m+1=>by
  rw[List.range_succ,List.filter_append,List.length_append, <-ld_list p m]
  show ldF p m+(@ite Nat (Ldr p m) (Classical.propDecidable _) 1 0)=_
  by_cases c:Ldr p m
  ·rw[if_pos c,List.filter_cons,dP_t c];rfl
  ·rw[if_neg c,List.filter_cons]
   have:dP (Ldr p m)=false:=by cases e:dP (Ldr p m) with|false=>rfl|true=>exact absurd (dP_iff.1 e) c
   rw[this];rfl
theorem ldr_of(hp:Perm n p){x:Nat}(hx:x<n):∃r,r<n/\Ldr p r/\(∃t,itF p t r=x)/\∃t,itF p t x=r:=by
 obtain⟨r,h1,h2,h3⟩:=leader (R:=RelOf (InvP n p)) hx (.refl x)
 refine⟨r,h1,λ k=>?_,(h2 _ (orb_inv hp h1)).2 ⟨0,rfl⟩,(h2 _ (orb_inv hp hx)).1 ⟨0,rfl⟩⟩
 exact h3 _ (it_lt hp.lt h1 k) (h2.trans λ S hS=>(it_inv hp hS h1 k).symm)
theorem ldr_uniq(hp:Perm n p){r r':Nat}(hr:r<n)(hr':r'<n)(h:Ldr p r)(h':Ldr p r')(hR:RelOf (InvP n p) r r'):r=r':=by
 obtain⟨k,e⟩:=(hR _ (orb_inv hp hr)).1 ⟨0,rfl⟩
 obtain⟨l,e'⟩:=(hR _ (orb_inv hp hr')).2 ⟨0,rfl⟩
 have h1:=h k
 have h2:=h' l
 omega
theorem it_rel(hp:Perm n p){x:Nat}(hx:x<n)(k:Nat):RelOf (InvP n p) x (itF p k x):=λ S hS=>(it_inv hp hS hx k).symm
theorem it_mulq{m:Nat}{x:Nat}(h:itF p m x=x):∀q,itF p (q*m) x=x
 |0=>by rw[Nat.zero_mul];rfl
 |q+1=>by rw[Nat.succ_mul,it_add,it_mulq h q,h]
theorem it_mod{m:Nat}{x:Nat}(h:itF p m x=x)(t:Nat):itF p t x=itF p (t % m) x:=by
 have e:t=t / m*m+t % m:=by rw[Nat.mul_comm];exact(Nat.div_add_mod t m).symm
 rw[e,it_add,it_mulq h]
 congr 1
 rw[Nat.mul_comm,Nat.mul_add_mod,Nat.mod_mod]
theorem ld_ord(hp:Perm n p){m:Nat}(hm:1<=m)(h:∀x,x<n->itF p m x=x):n<=ldF p n*m:=by
 have hR:∀x,∃r,x<n->r<n/\Ldr p r/\∃t,itF p t r=x:=λ x=>by
  by_cases hx:x<n
  ·obtain⟨r,h1,h2,h3,_⟩:=ldr_of hp hx
   exact⟨r,λ _=>⟨h1,h2,h3⟩⟩
  ·exact⟨0,λ h=>absurd h hx⟩
 obtain⟨R,hR⟩:=Classical.axiomOfChoice hR
 have:=len_le_fibers (k:=m) R ((List.range n).filter λ x=>dP (Ldr p x)) (List.range n) (λ x hx=>by
  obtain⟨h1,h2,_⟩:=hR x (List.mem_range.1 hx)
  exact List.mem_filter.2 ⟨List.mem_range.2 h1,dP_t h2⟩) λ r hr=>by
  have l1:=nodup_sub ((List.range n).filter λ x=>decide (R x=r)) ((List.range m).map λ t=>itF p t r) (List.nodup_range.filter _) λ x hx=>by
   rw[List.mem_filter,List.mem_range,decide_eq_true_eq] at hx
   obtain⟨g1,_,t,g3⟩:=hR x hx.1
   rw[hx.2] at g1 g3
   exact List.mem_map.2 ⟨t % m,List.mem_range.2 (Nat.mod_lt _ hm),by rw[<-it_mod (h r g1)];exact g3⟩
  rwa [List.length_map,List.length_range] at l1
 rw[List.length_range, <-ld_list] at this
 exact this
theorem ld_ord2(hp:Perm n p){m:Nat}(h:∀x,x<n->∀t,1<=t->t<m->itF p t x≠x):ldF p n*m<=n:=by
 have hR:∀x,∃r,x<n->r<n/\Ldr p r/\RelOf (InvP n p) r x:=λ x=>by
  by_cases hx:x<n
  ·obtain⟨r,h1,h2,⟨t,h3⟩,_⟩:=ldr_of hp hx
   exact⟨r,λ _=>⟨h1,h2,h3▸it_rel hp h1 t⟩⟩
  ·exact⟨0,λ h=>absurd h hx⟩
 obtain⟨R,hR⟩:=Classical.axiomOfChoice hR
 have:=len_ge_fibers (k:=m) R ((List.range n).filter λ x=>dP (Ldr p x)) (List.range n) (List.nodup_range.filter _) λ r hr=>by
  rw[List.mem_filter,List.mem_range,dP_iff] at hr
  have hnd:((List.range m).map λ t=>itF p t r).Nodup:=by
   unfold List.Nodup
   rw[List.pairwise_map]
   refine List.Pairwise.imp_of_mem (λ{s t} hs ht hlt e=>?_) List.pairwise_lt_range
   have hs:=List.mem_range.1 hs
   have ht:=List.mem_range.1 ht
   refine h (itF p s r) (it_lt hp.lt hr.1 s) (t-s) (by omega) (by omega) ?_
   rw[<-it_add,show s+(t-s)=t by omega];exact e.symm
  have l1:=nodup_sub _ ((List.range n).filter λ x=>decide (R x=r)) hnd λ x hx=>by
   obtain⟨t,ht,rfl⟩:=List.mem_map.1 hx
   have hl:=it_lt hp.lt hr.1 t
   obtain⟨g1,g2,g3⟩:=hR _ hl
   exact List.mem_filter.2 ⟨List.mem_range.2 hl,decide_eq_true (ldr_uniq hp g1 hr.1 g2 hr.2 (g3.trans (it_rel hp hr.1 t).symm))⟩
  rwa [List.length_map,List.length_range] at l1
 rw[List.length_range, <-ld_list] at this
 exact this
theorem ldF_congr{q:Nat->Nat}(hp:Perm n p)(hq:Perm n q)(h:∀S,InvP n p S↔InvP n q S):ldF p n=ldF q n:=by
 rw[ld_cl hp,ld_cl hq]
 exact clN_congr λ x y _ _=>⟨λ hr S hS=>hr S ((h S).2 hS),λ hr S hS=>hr S ((h S).1 hS)⟩
theorem ldF_back(hn:n<=16)(hp:Perm n p):ldF (backTo p n) n=ldF p n:=by
 have hb:∀i,i<n->backTo p n (p i)=i:=λ i hi=>backTo_at hp n (Nat.le_refl _) i hi
 refine ldF_congr (perm_back hn hp) hp λ S=>⟨λ h z hz=>?_,λ h z hz=>?_⟩
 ·have:=h (p z) (hp.lt z hz)
  rw[hb z hz] at this
  exact this.symm
 ·obtain⟨u,hu,rfl⟩:=perm_onto hp hz
  rw[hb u hu]
  exact(h u hu).symm
theorem ldF_vals{q:Nat->Nat}(hp:Perm n p)(h:∀x,x<n->p x=q x):ldF p n=ldF q n:=by
 have hq:Perm n q:=⟨λ i hi=>h i hi▸hp.lt i hi,λ i j hi hj e=>hp.inj i j hi hj (by rw[h i hi,h j hj];exact e)⟩
 exact ldF_congr hp hq λ S=>⟨λ hs z hz=>by rw[<-h z hz];exact hs z hz,λ hs z hz=>by rw[h z hz];exact hs z hz⟩
end
theorem ld_cover{N M k:Nat}{v V f:Nat->Nat}(hv:Perm N v)(hV:Perm M V)(hl:∀x,x<N->f x<M)(he:∀x,x<N->f (v x)=V (f x))(hk:∀z,z<M->fibN N f z<=k):ldF v N<=ldF V M*k:=by
 have hR:∀z,∃rt:Nat×Nat,z<M->rt.1<M/\Ldr V rt.1/\itF V rt.2 z=rt.1:=λ z=>by
  by_cases hz:z<M
  ·obtain⟨r,h1,h2,_,t,h3⟩:=ldr_of hV hz
   exact⟨(r,t),λ _=>⟨h1,h2,h3⟩⟩
  ·exact⟨(0,0),λ h=>absurd h hz⟩
 obtain⟨R,hR⟩:=Classical.axiomOfChoice hR
 have hit:∀x,x<N->∀t,f (itF v t x)=itF V t (f x):=λ x hx t=>by
  induction t with
  |zero=>rfl
  |succ t ih=>show f (v (itF v t x))=V (itF V t (f x));rw[he _ (it_lt hv.lt hx t),ih]
 have:=len_le_fibers (k:=k) (λ x=>(R (f x)).1) ((List.range M).filter λ x=>dP (Ldr V x)) ((List.range N).filter λ x=>dP (Ldr v x)) (λ x hx=>by
  rw[List.mem_filter,List.mem_range] at hx
  obtain⟨h1,h2,_⟩:=hR _ (hl x hx.1)
  exact List.mem_filter.2 ⟨List.mem_range.2 h1,dP_t h2⟩) λ r hr=>by
  rw[List.mem_filter,List.mem_range] at hr
  have hmem:∀x,x∈((List.range N).filter λ x=>dP (Ldr v x)).filter (λ x=>decide ((R (f x)).1=r))->x<N/\Ldr v x/\(R (f x)).1=r:=λ x hx=>by
   rw[List.mem_filter,List.mem_filter,List.mem_range,dP_iff,decide_eq_true_eq] at hx
   exact⟨hx.1.1,hx.1.2,hx.2⟩
  have hnd:((((List.range N).filter λ x=>dP (Ldr v x)).filter (λ x=>decide ((R (f x)).1=r))).map λ x=>itF v (R (f x)).2 x).Nodup:=by
   unfold List.Nodup
   rw[List.pairwise_map]
   refine List.Pairwise.imp_of_mem (λ{x y} hx hy hne e=>hne ?_) ((List.nodup_range.filter _).filter _)
   obtain⟨x1,x2,_⟩:=hmem x hx
   obtain⟨y1,y2,_⟩:=hmem y hy
   exact ldr_uniq hv x1 y1 x2 y2 ((it_rel hv x1 _).trans (e▸(it_rel hv y1 _).symm))
  have l1:=nodup_sub _ ((List.range N).filter λ y=>decide (f y=r)) hnd λ y hy=>by
   obtain⟨x,hx,rfl⟩:=List.mem_map.1 hy
   obtain⟨x1,x2,x3⟩:=hmem x hx
   exact List.mem_filter.2 ⟨List.mem_range.2 (it_lt hv.lt x1 _),decide_eq_true (by rw[hit x x1,(hR _ (hl x x1)).2.2,x3])⟩
  rw[List.length_map] at l1
  exact Nat.le_trans l1 (hk r hr.1)
 rw[<-ld_list, <-ld_list] at this
 exact this
noncomputable def eulN (N:Nat)(b w:Nat->Nat):Int:=((ldF b N+ldF w N+ldF (λ x=>w (b x)) N:Nat):Int)-(N:Int)
theorem eul_two{N:Nat}{b w:Nat->Nat}(hD:Des N b w):eulN N b w<=2:=by
 have h:=ree_one hD.pb hD.pw λ x y hx hy S hS=>by
  have:=des_all hD hx (S:=λ z=>S x↔S z) Iff.rfl (λ z hz h=>⟨h.trans (hS.1 z hz).symm,h.trans (hS.2 z hz).symm⟩) hy
  exact this
 unfold eulN;omega
theorem mul_le_self{K:Int}(h:K<=0):∀k:Nat,1<=k->(k:Int)*K<=K
 |0,h1=>absurd h1 (by omega)
 |k+1,_=>by
  by_cases c:k=0
  ·subst c;simp
  ·have:=mul_le_self h k (by omega)
   rw[Int.natCast_add,Int.add_mul];omega
theorem eul_cover{N M:Nat}{b w B W f:Nat->Nat}(hD:Des N b w)(hD':Des M B W)(hf:Eqv N b w B W f)(hl:∀x,x<N->f x<M){K K':Int}(hK:eulN N b w=2*K)(hK':eulN M B W=2*K'):K<=K':=by
 have h0:0<M:=hD'.pos
 have hk:∀z,z<M->fibN N f z=fibN N f 0:=λ z hz=>Nat.le_antisymm (fib_all hD hD' hf hz h0) (fib_all hD hD' hf h0 hz)
 have hc:=fib_count hD hD' hf hl h0
 generalize fibN N f 0=k at*
 have hk1:1<=k:=by
  refine Classical.byContradiction λ h=>?_
  have:k=0:=by omega
  subst this
  have:=hD.pos
  omega
 have a1:=ld_cover hD.pb hD'.pb hl (λ x hx=>(hf x hx).1) λ z hz=>Nat.le_of_eq (hk z hz)
 have a2:=ld_cover hD.pw hD'.pw hl (λ x hx=>(hf x hx).2) λ z hz=>Nat.le_of_eq (hk z hz)
 have a3:=ld_cover (perm_comp hD.pw hD.pb) (perm_comp hD'.pw hD'.pb) hl (λ x hx=>by
  show f (w (b x))=W (B (f x))
  rw[(hf _ (hD.pb.lt x hx)).2,(hf x hx).1]) λ z hz=>Nat.le_of_eq (hk z hz)
 have key:eulN N b w<=(k:Int)*eulN M B W:=by
  unfold eulN
  have e:(k:Int)*(((ldF B M+ldF W M+ldF (λ x=>W (B x)) M:Nat):Int)-(M:Int))=(((ldF B M*k+ldF W M*k+ldF (λ x=>W (B x)) M*k:Nat):Int))-((k*M:Nat):Int):=by
   rw[Int.mul_sub]
   push_cast
   rw[Int.mul_add,Int.mul_add,Int.mul_comm (k:Int) (ldF B M:Int),Int.mul_comm (k:Int) (ldF W M:Int),Int.mul_comm (k:Int) (ldF (λ x=>W (B x)) M:Int)]
  rw[e,hc];omega
 have h2:=eul_two hD
 by_cases c:K'<=0
 ·have h3:=mul_le_self c k hk1
  rw[hK,hK',show(k:Int)*(2*K')=2*((k:Int)*K') by rw[<-Int.mul_assoc,Int.mul_comm (k:Int) 2,Int.mul_assoc]] at key
  omega
 ·omega
section
variable {N:Nat}{p:Nat->Nat}
noncomputable def odP (N:Nat)(p:Nat->Nat):Nat:=lcmTo (tyN (cycs p N) N) (tyN (cycs p N) N).length
theorem ty_in(hN:N<=16)(hp:Perm N p){x:Nat}(hx:x<N):lnF (cycs p N) x∈tyN (cycs p N) N:=by
 have h:=cls_mem (cyc_of hN hp) hx
 refine(ty_perm hN hp).mem_iff.2 (List.mem_map.2 ⟨(cycs p N).getD (clsF (cycs p N) x) [],?_,rfl⟩)
 rw[List.getD_eq_getElem?_getD,List.getElem?_eq_getElem h.1];exact List.getElem_mem h.1
theorem ty16(hN:N<=16)(hp:Perm N p):∀x∈tyN (cycs p N) N,1<=x/\x<=16:=λ x hx=>by have:=ty_mem hN hp hx;omega
theorem odP_pos(hN:N<=16)(hp:Perm N p):1<=odP N p:=(lcmTo_le (ty16 hN hp) (Nat.le_refl _)).1
theorem it_cyc(hN:N<=16)(hp:Perm N p){x:Nat}(hx:x<N)(t:Nat):itF p t x=x↔lnF (cycs p N) x∣t:=by
 have h:=cyc_of hN hp
 obtain⟨h1,h2⟩:=cls_mem h hx
 obtain⟨k,hk,e⟩:=mem_getD h2
 have walk:∀t,itF p t x=((cycs p N).getD (clsF (cycs p N) x) []).getD ((k+t) % ((cycs p N).getD (clsF (cycs p N) x) []).length) 0:=by
  intro t
  induction t with
  |zero=>rw[Nat.add_zero,Nat.mod_eq_of_lt hk];exact e.symm
  |succ t ih=>
   show p (itF p t x)=_
   rw[ih, <-h.next hp h1 (Nat.mod_lt _ (by omega))]
   congr 1
   rw[Nat.mod_add_mod,Nat.add_assoc]
 have hpos:0<((cycs p N).getD (clsF (cycs p N) x) []).length:=by omega
 have hnd:=h.nodup (clsF (cycs p N) x)
 rw[walk t]
 unfold lnF
 generalize ((cycs p N).getD (clsF (cycs p N) x) [])=l at*
 constructor
 ·intro e2
  have e3:=nodup_getD hnd (Nat.mod_lt _ hpos) hk (e2.trans e.symm)
  have e4:(k+t) % l.length=k % l.length:=by rw[e3,Nat.mod_eq_of_lt hk]
  have e5:=Nat.div_add_mod (k+t) l.length
  rw[e3] at e5
  exact⟨(k+t) / l.length,by omega⟩
 ·rintro⟨c,rfl⟩
  rw[Nat.add_mul_mod_self_left,Nat.mod_eq_of_lt hk];exact e
theorem odP_it(hN:N<=16)(hp:Perm N p){x:Nat}(hx:x<N):itF p (odP N p) x=x:=by
 refine(it_cyc hN hp hx _).2 ?_
 obtain⟨j,hj,e⟩:=mem_getD (ty_in hN hp hx)
 rw[<-e]
 exact dvd_lcmTo (ty16 hN hp) _ (Nat.le_refl _) j hj
theorem lcmTo_least{D:List Nat}(h:∀x∈D,1<=x/\x<=16){t:Nat}(ht:∀x∈D,x∣t):∀i,i<=D.length->lcmTo D i∣t
 |0,_=>Nat.one_dvd _
 |i+1,hi=>by
  have e:lcmTo D (i+1)=Nat.lcm (lcmTo D i) (D.getD i 0):=by
   simp only[lcmTo]
   have hg:=Nat.gcd_dvd_left (lcmTo D i) (D.getD i 0)
   unfold Nat.lcm
   rw[Nat.mul_comm, <-Nat.mul_div_assoc _ hg,Nat.mul_comm]
  rw[e]
  exact Nat.lcm_dvd (lcmTo_least h ht i (by omega)) (ht _ (getD_mem (by omega)))
theorem odP_dvd(hN:N<=16)(hp:Perm N p){t:Nat}(h:∀x,x<N->itF p t x=x):odP N p∣t:=by
 refine lcmTo_least (ty16 hN hp) (λ y hy=>?_) _ (Nat.le_refl _)
 obtain⟨l,hl,rfl⟩:=List.mem_map.1 ((ty_perm hN hp).mem_iff.1 hy)
 obtain⟨j,hj,e⟩:=List.mem_iff_getElem.1 hl
 have e2:(cycs p N).getD j []=l:=by rw[List.getD_eq_getElem?_getD,List.getElem?_eq_getElem hj];exact e
 have hc:=cyc_of hN hp
 have hx:((cycs p N).getD j []).getD 0 0∈(cycs p N).getD j []:=getD_mem (hc.pos j hj)
 have hxN:=hc.lt j _ hx
 have:=(it_cyc hN hp hxN t).1 (h _ hxN)
 unfold lnF at this
 rw[cls_of hc.uniq hx,e2] at this
 exact this
end
section
variable {N:Nat}{b w:Nat->Nat}
theorem ord_dvd(hD:Des N b w)(hb:Np N b)(hw:Np N w):N∣ordG N [b,w]:=by
 have h0:cntB (tellB N [b,w] 0) N=N:=by
  have key:∀m,(∀y,y<m->tellB N [b,w] 0 y=true)->cntB (tellB N [b,w] 0) m=m:=by
   intro m
   induction m with
   |zero=>intro _;rfl
   |succ m ih=>intro h;simp only[cntB,h m (Nat.lt_succ_self _),cond_true];rw[ih λ y hy=>h y (by omega)]
  exact key N λ y hy=>by
   obtain⟨g,h1,h2⟩:=grp_trans hD hy
   exact tellB_iff.2 ⟨g,h1,λ j hj=>absurd hj (Nat.not_lt_zero _),h2⟩
 have key:∀i,N∣ordF N (tellB N [b,w]) (i+1):=by
  intro i
  induction i with
  |zero=>simp only[ordF,h0];exact Nat.dvd_mul_left _ _
  |succ i ih=>exact Nat.dvd_mul_right_of_dvd ih _
 have hpos:=hD.pos
 obtain⟨k,rfl⟩:∃k,N=k+1:=⟨N-1,by omega⟩
 exact key k
theorem face_it{q r:Nat->Nat}(hr:Perm N r)(h:∀x,x<N->q (r x)=x){m:Nat}(hm:∀x,x<N->itF q m x=x):∀x,x<N->itF r m x=x:=by
 have key:∀m x,x<N->itF q m (itF r m x)=x:=by
  intro m
  induction m with
  |zero=>intro x _;rfl
  |succ m ih=>
   intro x hx
   have e1:itF q (m+1) (itF r (m+1) x)=itF q m (q (r (itF r m x))):=by
    rw[show m+1=1+m by omega,it_add]
    show itF q m (q (itF r (1+m) x))=_
    rw[show 1+m=m+1 by omega];rfl
   rw[e1,h _ (it_lt hr.lt hx m)]
   exact ih x hx
 intro x hx
 have h1:=key m x hx
 rw[hm _ (it_lt hr.lt hx m)] at h1
 exact h1
def fcF(N:Nat)(b w:Nat->Nat):Nat->Nat:=backTo (mulF N b w) N
theorem mul_perm(hD:Des N b w):Perm N (mulF N b w):=⟨λ i hi=>by rw[mul_at hi];exact hD.pw.lt _ (hD.pb.lt i hi),λ i j hi hj e=>by
 rw[mul_at hi,mul_at hj] at e
 exact hD.pb.inj i j hi hj (hD.pw.inj _ _ (hD.pb.lt i hi) (hD.pb.lt j hj) e)⟩
theorem ld_face(hD:Des N b w):ldF (fcF N b w) N=ldF (λ x=>w (b x)) N:=by
 unfold fcF
 rw[ldF_back hD.le (mul_perm hD)]
 exact ldF_vals (mul_perm hD) λ x hx=>mul_at hx
theorem it_congr{p q:Nat->Nat}(hp:∀i,i<N->p i<N)(h:∀x,x<N->p x=q x):∀t x,x<N->itF p t x=itF q t x
 |0,_,_=>rfl
 |t+1,x,hx=>by
  show p (itF p t x)=q (itF q t x)
  rw[h _ (it_lt hp hx t),it_congr hp h t x hx]
theorem clos_two(hD:Des N b w)(hb:Np N b)(hw:Np N w):ordG N [b,w] / odP N b+ordG N [b,w] / odP N w+ordG N [b,w] / odP N (fcF N b w)<=ordG N [b,w]+2:=by
 classical
 have hN:=hD.le
 have hL:=two_np hb hw
 have hE:=(elG_ok hN hL).1
 have hlen:=elG_len hN hL
 rw[<-hlen]
 generalize elG N [b,w]=E at*
 clear hlen
 let at_:Nat->Nat->Nat:=λ i=>E.getD i λ _=>0
 have hat:∀i,i<E.length->at_ i∈E:=λ i hi=>by show E.getD i _∈E;rw[List.getD_eq_getElem?_getD,List.getElem?_eq_getElem hi];exact List.getElem_mem hi
 have hidx:∀g,g∈E->E.idxOf g<E.length/\at_ (E.idxOf g)=g:=λ g hg=>by
  have h1:=List.idxOf_lt_length_iff.2 hg
  refine⟨h1,?_⟩
  show E.getD (E.idxOf g) _=g
  rw[List.getD_eq_getElem?_getD,List.getElem?_eq_getElem h1]
  exact List.getElem_idxOf h1
 have hix:∀i,i<E.length->E.idxOf (at_ i)=i:=λ i hi=>by
  show E.idxOf (E.getD i _)=i
  rw[List.getD_eq_getElem?_getD,List.getElem?_eq_getElem hi]
  exact List.Nodup.idxOf_getElem hE.nodup i hi
 have hnp:∀i,i<E.length->Np N (at_ i):=λ i hi=>((hE.mem _).1 (hat i hi)).np hL
 let mu:(Nat->Nat)->Nat->Nat:=λ h i=>E.idxOf (mulF N (at_ i) h)
 have hmu:∀h,h∈[b,w]->∀i,i<E.length->mu h i<E.length/\at_ (mu h i)=mulF N (at_ i) h:=λ h hh i hi=>hidx _ ((hE.mem _).2 (.mul ((hE.mem _).1 (hat i hi)) hh))
 have hperm:∀h,h∈[b,w]->Perm E.length (mu h):=λ h hh=>⟨λ i hi=>(hmu h hh i hi).1,λ i j hi hj e=>by
  have e1:mulF N (at_ i) h=mulF N (at_ j) h:=by rw[<-(hmu h hh i hi).2, <-(hmu h hh j hj).2,e]
  have e2:at_ i=at_ j:=np_ext (hnp i hi) (hnp j hj) λ x hx=>by
   have:=congrFun e1 x
   rw[mul_at hx,mul_at hx] at this
   exact(hL h hh).perm.inj _ _ ((hnp i hi).perm.lt x hx) ((hnp j hj).perm.lt x hx) this
  rw[<-hix i hi, <-hix j hj,e2]⟩
 have hbm:b∈[b,w]:=List.mem_cons_self ..
 have hwm:w∈[b,w]:=List.mem_cons_of_mem _ (List.mem_singleton.2 rfl)
 have hat_mu:∀h,h∈[b,w]->∀i,i<E.length->∀x,x<N->at_ (mu h i) x=h (at_ i x):=λ h hh i hi x hx=>by rw[(hmu h hh i hi).2,mul_at hx]
 --powers
 have pow:∀(u:Nat->Nat) (v:Nat->Nat),(∀i,i<E.length->u i<E.length)->(∀i,i<E.length->∀x,x<N->at_ (u i) x=v (at_ i x))->∀t i,i<E.length->itF u t i<E.length/\∀x,x<N->at_ (itF u t i) x=itF v t (at_ i x):=by
  intro u v hu huv t
  induction t with
  |zero=>intro i hi;exact⟨hi,λ _ _=>rfl⟩
  |succ t ih=>
   intro i hi
   obtain⟨h1,h2⟩:=ih i hi
   exact⟨hu _ h1,λ x hx=>by show at_ (u (itF u t i)) x=v (itF v t (at_ i x));rw[huv _ h1 x hx,h2 x hx]⟩
 have back:∀(u v:Nat->Nat) (m:Nat),(∀i,i<E.length->u i<E.length)->(∀i,i<E.length->∀x,x<N->at_ (u i) x=v (at_ i x))->(∀x,x<N->itF v m x=x)->∀i,i<E.length->itF u m i=i:=λ u v m hu huv hm i hi=>by
  obtain⟨h1,h2⟩:=pow u v hu huv m i hi
  have e:at_ (itF u m i)=at_ i:=np_ext (hnp _ h1) (hnp i hi) λ x hx=>by rw[h2 x hx];exact hm _ ((hnp i hi).perm.lt x hx)
  have e2:=congrArg (λ g=>E.idxOf g) e
  simp only[hix _ h1,hix i hi] at e2
  exact e2
 have ub:∀i,i<E.length->mu b i<E.length:=λ i hi=>(hmu b hbm i hi).1
 have uw:∀i,i<E.length->mu w i<E.length:=λ i hi=>(hmu w hwm i hi).1
 have l1:=ld_ord (hperm b hbm) (odP_pos hN hD.pb) (back _ b _ ub (hat_mu b hbm) λ x hx=>odP_it hN hD.pb hx)
 have l2:=ld_ord (hperm w hwm) (odP_pos hN hD.pw) (back _ w _ uw (hat_mu w hwm) λ x hx=>odP_it hN hD.pw hx)
 have hfp:Perm N (fcF N b w):=perm_back hN (mul_perm hD)
 have hpm:∀x,x<N->itF (λ x=>w (b x)) (odP N (fcF N b w)) x=x:=λ x hx=>by
  have h1:=face_it (mul_perm hD) (λ x hx=>backTo_at (mul_perm hD) N (Nat.le_refl _) x hx) (λ x hx=>odP_it hN hfp hx) x hx
  rw[it_congr (mul_perm hD).lt (λ y hy=>mul_at hy) _ x hx] at h1
  exact h1
 have l3:=ld_ord (perm_comp (hperm w hwm) (hperm b hbm)) (odP_pos hN hfp) (back (λ i=>mu w (mu b i)) (λ x=>w (b x)) _ (λ i hi=>uw _ (ub i hi)) (λ i hi x hx=>by rw[hat_mu w hwm _ (ub i hi) x hx,hat_mu b hbm i hi x hx]) hpm)
 have hone:∀g,Grp N [b,w] g->∀S,InvT E.length (mu b) (mu w) S->(S (E.idxOf g)↔S (E.idxOf (sameF N))):=by
  intro g hg S hS
  induction hg with
  |one=>exact Iff.rfl
  |@mul p h hp hh ih=>
   have hpE:=(hE.mem p).2 hp
   have h1:=hidx p hpE
   have e:E.idxOf (mulF N p h)=mu h (E.idxOf p):=by show _=E.idxOf (mulF N (at_ (E.idxOf p)) h);rw[h1.2]
   rw[e]
   rcases List.mem_cons.1 hh with rfl|hh
   ·exact(hS.1 _ h1.1).trans ih
   ·rw[List.mem_singleton.1 hh];exact(hS.2 _ h1.1).trans ih
 have hr:=ree_one (hperm b hbm) (hperm w hwm) λ i j hi hj S hS=>by
  have h1:=hone _ ((hE.mem _).1 (hat i hi)) S hS
  have h2:=hone _ ((hE.mem _).1 (hat j hj)) S hS
  rw[hix i hi] at h1
  rw[hix j hj] at h2
  exact h1.trans h2.symm
 have d1:E.length / odP N b<=ldF (mu b) E.length:=Nat.div_le_of_le_mul (by rw[Nat.mul_comm];exact l1)
 have d2:E.length / odP N w<=ldF (mu w) E.length:=Nat.div_le_of_le_mul (by rw[Nat.mul_comm];exact l2)
 have d3:E.length / odP N (fcF N b w)<=ldF (λ x=>mu w (mu b x)) E.length:=Nat.div_le_of_le_mul (by rw[Nat.mul_comm];exact l3)
 omega
theorem free_of(hD:Des N b w)(hb:Np N b)(hw:Np N w)(h:ordG N [b,w]=N){g:Nat->Nat}(hg:Grp N [b,w] g){x:Nat}(hx:x<N)(e:g x=x){y:Nat}(hy:y<N):g y=y:=by
 have hall:∀y,y<N->AutR N b w 0 y:=λ y hy=>by
  have h1:=(regular_iff hD hb hw).2 h
  rw[isoL_count] at h1
  have:=List.length_filter_eq_length_iff.1 (h1.trans List.length_range.symm) y (List.mem_range.2 hy)
  obtain⟨a1,a2,a3,_⟩:=iso_of hD hD hy this
  exact⟨_,a1,a3,a2⟩
 obtain⟨f,hf,he,rfl⟩:=((hall x hx).symm hD hD.pos).trans (hall y hy)
 rw[<-grp_comm hb hw he hf.lt hg x hx,e]
theorem it_grp(hb:Np N b)(hw:Np N w){g:Nat->Nat}(hg:Grp N [b,w] g):∀t,∃u,Grp N [b,w] u/\∀x,x<N->u x=itF g t x
 |0=>⟨_,.one,λ x hx=>one_at hx⟩
 |t+1=>by
  obtain⟨u,h1,h2⟩:=it_grp hb hw hg t
  exact⟨_,h1.comp (two_np hb hw) hg,λ x hx=>by rw[mul_at hx,h2 x hx];rfl⟩
theorem reg_cyc(hD:Des N b w)(hb:Np N b)(hw:Np N w)(h:ordG N [b,w]=N){g:Nat->Nat}(hg:Grp N [b,w] g):N / odP N g=ldF g N:=by
 have hN:=hD.le
 have hp:=(hg.np (two_np hb hw)).perm
 have l1:=ld_ord hp (odP_pos hN hp) λ x hx=>odP_it hN hp hx
 have l2:=ld_ord2 hp (m:=odP N g) λ x hx t h1 h2 e=>by
  obtain⟨u,hu,hu2⟩:=it_grp hb hw hg t
  have hall:∀y,y<N->itF g t y=y:=λ y hy=>by rw[<-hu2 y hy];exact free_of hD hb hw h hu hx (by rw[hu2 x hx];exact e) hy
  have:=Nat.le_of_dvd (by omega) (odP_dvd hN hp hall)
  omega
 have e:N=ldF g N*odP N g:=Nat.le_antisymm l1 l2
 have hpos:=odP_pos hN hp
 exact Nat.div_eq_of_eq_mul_left (by omega) e
theorem clos_le(hD:Des N b w)(hb:Np N b)(hw:Np N w){K:Int}(hK:eulN N b w=2*K):
  ((((ordG N [b,w] / odP N b+ordG N [b,w] / odP N w+ordG N [b,w] / odP N (fcF N b w):Nat):Int)-(ordG N [b,w]:Int)).tdiv 2<=K)/\
  (ordG N [b,w]=N->(((ordG N [b,w] / odP N b+ordG N [b,w] / odP N w+ordG N [b,w] / odP N (fcF N b w):Nat):Int)-(ordG N [b,w]:Int)).tdiv 2=K):=by
 have hN:=hD.le
 have hL:=two_np hb hw
 have hfp:Perm N (fcF N b w):=perm_back hN (mul_perm hD)
 have td:∀K:Int,(2*K).tdiv 2=K:=λ K=>Int.mul_tdiv_cancel_left K (by decide)
 have mono:∀{a K:Int},a<=2*K->a.tdiv 2<=K:=λ{a K} h=>by
  have h1:=Int.tdiv_le_tdiv (show(0:Int)<2 by decide) h
  rwa [td] at h1
 constructor
 ·have h2:=clos_two hD hb hw
  by_cases c:1<=K
  ·refine mono ?_
   omega
  ·obtain⟨s,hs⟩:=ord_dvd hD hb hw
   have hs1:1<=s:=by
    refine Classical.byContradiction λ hc=>?_
    have:s=0:=by omega
    subst this
    rw[Nat.mul_zero] at hs
    have h3:=elG_len hN hL
    have h4:sameF N∈elG N [b,w]:=((elG_ok hN hL).1.mem _).2 .one
    have:=List.length_pos_of_mem h4
    omega
   have q:∀{p:Nat->Nat},Perm N p->N*s / odP N p<=ldF p N*s:=λ{p} hp=>by
    have l1:=ld_ord hp (odP_pos hN hp) λ x hx=>odP_it hN hp hx
    refine Nat.div_le_of_le_mul ?_
    have:=Nat.mul_le_mul_right s l1
    rwa [Nat.mul_comm (ldF p N) (odP N p),Nat.mul_assoc] at this
   have q1:=q hD.pb
   have q2:=q hD.pw
   have q3:=q hfp
   rw[ld_face hD] at q3
   rw[hs] at*
   refine mono ?_
   have key:(((N*s / odP N b+N*s / odP N w+N*s / odP N (fcF N b w):Nat):Int)-((N*s:Nat):Int))<=(s:Int)*eulN N b w:=by
    unfold eulN
    have e:(s:Int)*(((ldF b N+ldF w N+ldF (λ x=>w (b x)) N:Nat):Int)-(N:Int))=(((ldF b N*s+ldF w N*s+ldF (λ x=>w (b x)) N*s:Nat):Int))-((N*s:Nat):Int):=by
     rw[Int.mul_sub]
     push_cast
     rw[Int.mul_add,Int.mul_add,Int.mul_comm (s:Int) (ldF b N:Int),Int.mul_comm (s:Int) (ldF w N:Int),Int.mul_comm (s:Int) (ldF (λ x=>w (b x)) N:Int),Int.mul_comm (s:Int) (N:Int)]
    rw[e];omega
   have h3:=mul_le_self (K:=K) (by omega) s hs1
   rw[hK,show(s:Int)*(2*K)=2*((s:Int)*K) by rw[<-Int.mul_assoc,Int.mul_comm (s:Int) 2,Int.mul_assoc]] at key
   omega
 ·intro h
  have hbm:b∈[b,w]:=List.mem_cons_self ..
  have hwm:w∈[b,w]:=List.mem_cons_of_mem _ (List.mem_singleton.2 rfl)
  have gb:Grp N [b,w] b:=Grp.gen hL hbm
  have gw:Grp N [b,w] w:=Grp.gen hL hwm
  have gf:Grp N [b,w] (fcF N b w):=(Grp.mul gb hwm).inv hN hL
  have e1:=reg_cyc hD hb hw h gb
  have e2:=reg_cyc hD hb hw h gw
  have e3:=reg_cyc hD hb hw h gf
  rw[ld_face hD] at e3
  rw[h,e1,e2,e3]
  have:(((ldF b N+ldF w N+ldF (λ x=>w (b x)) N:Nat):Int)-(N:Int))=2*K:=hK
  rw[this,td]
end
end Go.Proofs.YthjnmlpibafbnaaGreat

namespace Go.Proofs.YthjnmlpibafbnaaGreat
open Go.RowKit DM
set_option linter.unusedVariables false
set_option linter.unusedSimpArgs false
structure WhI(N:Nat)(E:Nat->Nat->Bool)(k:Nat):Prop where
 pos:∀u,u<N->(0<(whTo E k).1 u↔∃z,z<k/\E z u=true)
 eq:∀u v,u<N->v<N->0<(whTo E k).1 u->0<(whTo E k).1 v->((whTo E k).1 u=(whTo E k).1 v↔E u v=true)
 onto:∀j,j<(whTo E k).2->∃u,u<k/\(whTo E k).1 u=j+1
theorem wh_cls{N:Nat}{E:Nat->Nat->Bool}(hr:∀u,u<N->E u u=true)(hs:∀u v,u<N->v<N->E u v=true->E v u=true)
  (ht:∀u v z,u<N->v<N->z<N->E u v=true->E v z=true->E u z=true):∀k,k<=N->WhI N E k
 |0,_=>⟨λ u _=>⟨λ h=>absurd h (Nat.lt_irrefl _),λ⟨z,h,_⟩=>absurd h (Nat.not_lt_zero _)⟩,λ u v _ _ h=>absurd h (Nat.lt_irrefl _),λ j h=>absurd h (Nat.not_lt_zero _)⟩
 |k+1,hk=>by
  have I:=wh_cls hr hs ht k (by omega)
  have hle:=(wh_le E k).2
  have hkN:k<N:=by omega
  by_cases c:0<(whTo E k).1 k
  ·rw[show WhI N E (k+1)=WhI N E (k+1) from rfl]
   refine⟨?_,?_,?_⟩
   ·intro u hu
    rw[wh_old c,I.pos u hu]
    constructor
    ·rintro⟨z,h1,h2⟩;exact⟨z,by omega,h2⟩
    ·rintro⟨z,h1,h2⟩
     by_cases e:z=k
     ·subst e
      obtain⟨y,h3,h4⟩:=(I.pos z hkN).1 c
      exact⟨y,h3,ht y z u (by omega) hkN hu h4 h2⟩
     ·exact⟨z,by omega,h2⟩
   ·rw[wh_old c];exact I.eq
   ·rw[wh_old c];intro j hj
    obtain⟨u,h1,h2⟩:=I.onto j hj
    exact⟨u,by omega,h2⟩
  ·have hnew:=wh_new c
   have hno:∀u,u<N->E k u=true->¬0<(whTo E k).1 u:=λ u hu h h0=>by
    obtain⟨y,h3,h4⟩:=(I.pos u hu).1 h0
    exact c ((I.pos k hkN).2 ⟨y,h3,ht y u k (by omega) hu hkN h4 (hs k u hkN hu h)⟩)
   refine⟨?_,?_,?_⟩
   ·intro u hu
    rw[hnew]
    dsimp only
    split
    ·rename_i h
     exact⟨λ _=>⟨k,by omega,h⟩,λ _=>by omega⟩
    ·rename_i h
     rw[I.pos u hu]
     constructor
     ·rintro⟨z,h1,h2⟩;exact⟨z,by omega,h2⟩
     ·rintro⟨z,h1,h2⟩
      by_cases e:z=k
      ·subst e;exact absurd h2 h
      ·exact⟨z,by omega,h2⟩
   ·intro u v hu hv
    rw[hnew]
    dsimp only
    have lu:=hle u
    have lv:=hle v
    split<;>split
    ·rename_i h1 h2
     exact λ _ _=>⟨λ _=>ht u k v hu hkN hv (hs k u hkN hu h1) h2,λ _=>rfl⟩
    ·rename_i h1 h2
     exact λ _ _=>⟨λ e=>by omega,λ e=>absurd (ht k u v hkN hu hv h1 e) h2⟩
    ·rename_i h1 h2
     exact λ _ _=>⟨λ e=>by omega,λ e=>absurd (ht k v u hkN hv hu h2 (hs u v hu hv e)) h1⟩
    ·exact I.eq u v hu hv
   ·rw[hnew]
    dsimp only
    intro j hj
    by_cases e:j=(whTo E k).2
    ·subst e
     exact⟨k,by omega,by rw[if_pos (hr k hkN)]⟩
    ·obtain⟨u,h1,h2⟩:=I.onto j (by omega)
     refine⟨u,by omega,?_⟩
     rw[if_neg λ h=>hno u (by omega) h (by omega)]
     exact h2
section
variable {N:Nat}{b w:Nat->Nat}{x y:Nat}
theorem perm_inv(hN:N<=16){p:Nat->Nat}(hp:Perm N p):∃t,(∀u,u<N->itF p t (p u)=u)/\∀u,u<N->p (itF p t u)=u:=by
 have h1:=odP_pos hN hp
 refine⟨odP N p-1,λ u hu=>?_,λ u hu=>?_⟩
 ·have:=odP_it hN hp hu
  rw[show odP N p=1+(odP N p-1) by omega,it_add] at this
  exact this
 ·have:=odP_it hN hp hu
  rw[show odP N p=(odP N p-1)+1 by omega] at this
  exact this
theorem gen_it{p:Nat->Nat}(hc:∀i j,Gen b w x y i j->Gen b w x y (p i) (p j)){i j:Nat}(h:Gen b w x y i j):∀t,Gen b w x y (itF p t i) (itF p t j)
 |0=>h
 |t+1=>hc _ _ (gen_it hc h t)
theorem gen_back(hN:N<=16){p:Nat->Nat}(hp:Perm N p)(hc:∀i j,Gen b w x y i j->Gen b w x y (p i) (p j)){i j:Nat}(hi:i<N)(hj:j<N)(h:Gen b w x y (p i) (p j)):Gen b w x y i j:=by
 obtain⟨t,h1,_⟩:=perm_inv hN hp
 have:=gen_it hc h t
 rwa [h1 i hi,h1 j hj] at this
theorem gen_img(hN:N<=16){p:Nat->Nat}(hp:Perm N p)(hc:∀i j,Gen b w x y i j->Gen b w x y (p i) (p j)){S i:Nat}(hi:i<N)(hS:∀z,S.testBit z=true↔z<N/\Gen b w x y z i)(z:Nat):(img p N S).testBit z=true↔z<N/\Gen b w x y z (p i):=by
 unfold img
 rw[imgTo_bit N]
 constructor
 ·rintro⟨u,hu,h1,rfl⟩
  exact⟨hp.lt u hu,hc _ _ ((hS u).1 h1).2⟩
 ·rintro⟨hz,h⟩
  obtain⟨t,h1,h2⟩:=perm_inv hN hp
  refine⟨itF p t z,it_lt hp.lt hz t,(hS _).2 ⟨it_lt hp.lt hz t,?_⟩,h2 z hz⟩
  have:=gen_it hc h t
  rwa [h1 i hi] at this
theorem gen_blk(hD:Des N b w)(hb:Np N b)(hw:Np N w)(hx:x<N){S0:Nat}(hS:∀z,S0.testBit z=true↔z<N/\Gen b w x y z x):
  Blk N [b,w] S0/\∀u v,u<N->v<N->(blkE N [b,w] S0 u v=true↔Gen b w x y u v):=by
 have hN:=hD.le
 have hL:=two_np hb hw
 have hlow:Low N S0:=λ z hz=>((hS z).1 hz).1
 have hcl:∀p∈[b,w],Perm N p/\∀i j,Gen b w x y i j->Gen b w x y (p i) (p j):=λ p hp=>by
  rcases List.mem_cons.1 hp with rfl|hp
  ·exact⟨hD.pb,λ i j h=>.stepB h⟩
  ·rw[List.mem_singleton.1 hp];exact⟨hD.pw,λ i j h=>.stepW h⟩
 have h0:∃i,i<N/\∀z,S0.testBit z=true↔z<N/\Gen b w x y z i:=⟨x,hx,hS⟩
 have hc:∀S,(∃i,i<N/\∀z,S.testBit z=true↔z<N/\Gen b w x y z i)->∀p∈[b,w],∃i,i<N/\∀z,(img p N S).testBit z=true↔z<N/\Gen b w x y z i:=λ S ⟨i,hi,h⟩ p hp=>by
  obtain⟨h1,h2⟩:=hcl p hp
  exact⟨p i,h1.lt i hi,gen_img hN h1 h2 hi h⟩
 refine⟨blk_of hL hlow (P:=λ S=>∃i,i<N/\∀z,S.testBit z=true↔z<N/\Gen b w x y z i) h0 hc λ S T ⟨i,hi,h1⟩ ⟨j,hj,h2⟩ ⟨z,h3,h4⟩=>bits_ext λ u=>?_,λ u v hu hv=>?_⟩
 ·rw[h1,h2]
  have hij:Gen b w x y i j:=.trans (.symm ((h1 z).1 h3).2) ((h2 z).1 h4).2
  exact⟨λ h=>⟨h.1,.trans h.2 hij⟩,λ h=>⟨h.1,.trans h.2 (.symm hij)⟩⟩
 ·rw[blkE_iff]
  constructor
  ·rintro⟨S,hO,h1,h2⟩
   obtain⟨i,hi,h⟩:=orb_in hL hlow (P:=λ S=>∃i,i<N/\∀z,S.testBit z=true↔z<N/\Gen b w x y z i) h0 hc hO
   exact .trans ((h u).1 h1).2 (.symm ((h v).1 h2).2)
  ·intro h
   obtain⟨S,hO,hu'⟩:∃S,Orb N [b,w] S0 S/\S.testBit u=true:=conn_all hD (S:=λ z=>∃S,Orb N [b,w] S0 S/\S.testBit z=true) hx ⟨S0,.base hlow,(hS x).2 ⟨hx,.refl x⟩⟩ (λ z hz ⟨S,hO,h1⟩=>⟨⟨_,hO.step hL (List.mem_cons_self ..),(imgTo_bit N).2 ⟨z,hz,h1,rfl⟩⟩,⟨_,hO.step hL (List.mem_cons_of_mem _ (List.mem_singleton.2 rfl)),(imgTo_bit N).2 ⟨z,hz,h1,rfl⟩⟩⟩) hu
   obtain⟨i,hi,h2⟩:=orb_in hL hlow (P:=λ S=>∃i,i<N/\∀z,S.testBit z=true↔z<N/\Gen b w x y z i) h0 hc hO
   exact⟨S,hO,hu',(h2 v).2 ⟨hv,.trans (.symm h) ((h2 u).1 hu').2⟩⟩
theorem gen_quot(hD:Des N b w)(hb:Np N b)(hw:Np N w)(hx:x<N){S0:Nat}(hS:∀z,S0.testBit z=true↔z<N/\Gen b w x y z x):
  Des (qM N [b,w] S0) (qTo (qF N [b,w] S0) b N) (qTo (qF N [b,w] S0) w N)/\(∀i,qM N [b,w] S0<=i->qTo (qF N [b,w] S0) b N i=0/\qTo (qF N [b,w] S0) w N i=0)/\
  (∀u,u<N->qF N [b,w] S0 u<qM N [b,w] S0)/\Eqv N b w (qTo (qF N [b,w] S0) b N) (qTo (qF N [b,w] S0) w N) (qF N [b,w] S0)/\
  ∀u v,u<N->v<N->(qF N [b,w] S0 u=qF N [b,w] S0 v↔Gen b w x y u v):=by
 have hN:=hD.le
 obtain⟨_,hE⟩:=gen_blk hD hb hw hx hS
 have hr:∀u,u<N->blkE N [b,w] S0 u u=true:=λ u hu=>(hE u u hu hu).2 (.refl u)
 have I:=wh_cls hr (λ u v hu hv h=>(hE v u hv hu).2 (.symm ((hE u v hu hv).1 h))) (λ u v z hu hv hz h h'=>(hE u z hu hz).2 (.trans ((hE u v hu hv).1 h) ((hE v z hv hz).1 h'))) N (Nat.le_refl _)
 have hp:∀u,u<N->0<(whTo (blkE N [b,w] S0) N).1 u:=λ u hu=>(I.pos u hu).2 ⟨u,hu,hr u hu⟩
 have hle:=wh_le (blkE N [b,w] S0) N
 have hlt:∀u,u<N->qF N [b,w] S0 u<qM N [b,w] S0:=λ u hu=>by
  have h1:=hp u hu
  have h2:=hle.2 u
  unfold qF qM;omega
 have heq:∀u v,u<N->v<N->(qF N [b,w] S0 u=qF N [b,w] S0 v↔Gen b w x y u v):=λ u v hu hv=>by
  rw[<-hE u v hu hv, <-I.eq u v hu hv (hp u hu) (hp v hv)]
  have h1:=hp u hu
  have h2:=hp v hv
  unfold qF;omega
 have honto:∀j,j<qM N [b,w] S0->∃u,u<N/\qF N [b,w] S0 u=j:=λ j hj=>by
  obtain⟨u,h1,h2⟩:=I.onto j hj
  exact⟨u,h1,by unfold qF;omega⟩
 have hpos:1<=qM N [b,w] S0:=by have:=hlt x hx;omega
 have hM:qM N [b,w] S0<=16:=Nat.le_trans hle.1 hN
 generalize qM N [b,w] S0=M at*
 generalize qF N [b,w] S0=f at*
 have key:∀p,Perm N p->(∀i j,Gen b w x y i j->Gen b w x y (p i) (p j))->Perm M (qTo f p N)/\(∀i,M<=i->qTo f p N i=0)/\∀u,u<N->f (p u)=qTo f p N (f u):=λ p hp hc=>by
  have hv:=qTo_val (F:=f) (b:=p) (tB:=λ j=>@dite _ (∃u,u<N/\f u=j) (Classical.propDecidable _) (λ h=>f (p (Classical.choose h))) λ _=>0) N λ u hu=>by
   have h:∃v,v<N/\f v=f u:=⟨u,hu,rfl⟩
   rw[dif_pos h]
   obtain⟨h1,h2⟩:=Classical.choose_spec h
   exact((heq _ _ (hp.lt _ hu) (hp.lt _ h1)).2 (hc _ _ ((heq _ _ hu h1).1 h2.symm)))
  have hat:∀u,u<N->f (p u)=qTo f p N (f u):=λ u hu=>by
   rcases hv (f u) with⟨h1,_⟩|⟨h,h2⟩
   ·exact absurd rfl (h1 u hu)
   ·rw[h2,dif_pos h]
    obtain⟨h1,h2⟩:=Classical.choose_spec h
    exact((heq _ _ (hp.lt _ hu) (hp.lt _ h1)).2 (hc _ _ ((heq _ _ hu h1).1 h2.symm)))
  refine⟨⟨λ j hj=>?_,λ i j hi hj e=>?_⟩,λ i hi=>?_,hat⟩
  ·obtain⟨u,hu,rfl⟩:=honto j hj
   rw[<-hat u hu];exact hlt _ (hp.lt u hu)
  ·obtain⟨u,hu,rfl⟩:=honto i hi
   obtain⟨v,hv,rfl⟩:=honto j hj
   rw[<-hat u hu, <-hat v hv] at e
   exact(heq u v hu hv).2 (gen_back hN hp hc hu hv ((heq _ _ (hp.lt u hu) (hp.lt v hv)).1 e))
  ·rcases hv i with⟨_,h⟩|⟨⟨u,hu,h⟩,_⟩
   ·exact h
   ·have:=hlt u hu;omega
 obtain⟨b1,b2,b3⟩:=key b hD.pb λ i j h=>.stepB h
 obtain⟨w1,w2,w3⟩:=key w hD.pw λ i j h=>.stepW h
 refine⟨des_mk hpos hM b1 w1 λ S h0 hS z hz=>?_,λ i hi=>⟨b2 i hi,w2 i hi⟩,hlt,λ u hu=>⟨b3 u hu,w3 u hu⟩,heq⟩
 obtain⟨u0,hu0,e0⟩:=honto 0 (by omega)
 obtain⟨u,hu,rfl⟩:=honto z hz
 exact des_all hD hu0 (S:=λ v=>S (f v)) (show S (f u0) by rw[e0];exact h0) (λ v hv h=>by
  have:=hS (f v) (hlt v hv) h
  exact⟨show S (f (b v)) by rw[b3 v hv];exact this.1,show S (f (w v)) by rw[w3 v hv];exact this.2⟩) hu
theorem gen_count(hD:Des N b w)(hb:Np N b)(hw:Np N w)(hx:x<N){S0:Nat}(hS:∀z,S0.testBit z=true↔z<N/\Gen b w x y z x):qM N [b,w] S0*(blkL N b w x y).length=N:=by
 obtain⟨h1,_,h3,h4,h5⟩:=gen_quot hD hb hw hx hS
 have hc:=fib_count hD h1 h4 h3 (h3 x hx)
 rw[Nat.mul_comm]
 have e:(blkL N b w x y).length=fibN N (qF N [b,w] S0) (qF N [b,w] S0 x):=by
  unfold blkL fibN
  congr 1
  refine List.filter_congr λ u hu=>?_
  rw[Bool.eq_iff_iff,@decide_eq_true_iff _ (Classical.propDecidable _),decide_eq_true_eq]
  exact(h5 u x (List.mem_range.1 hu) hx).symm
 rw[e];exact hc
end
end Go.Proofs.YthjnmlpibafbnaaGreat
