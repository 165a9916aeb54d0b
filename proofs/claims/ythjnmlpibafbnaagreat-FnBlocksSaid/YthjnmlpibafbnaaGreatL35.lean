import Derived.Test.YthjnmlpibafbnaaGreatL29
import Derived.Test.YthjnmlpibafbnaaGreatX6
namespace Go.Proofs.YthjnmlpibafbnaaGreat
open Go.RowKit DM
set_option linter.unusedVariables false
set_option linter.unusedSimpArgs false
def ysL(h:Nat->Bool)(b:Nat):List Nat:=(List.range b).filter h
theorem ysL_succ(h:Nat->Bool)(b:Nat):ysL h (b+1)=ysL h b++(if h b=true then[b] else[]):=by
 unfold ysL
 rw[List.range_succ,List.filter_append]
 congr 1
 simp only[List.filter_cons,List.filter_nil]
theorem ysL_len(h:Nat->Bool):∀b,(ysL h b).length=cntB h b
 |0=>rfl
 |b+1=>by
  rw[ysL_succ,List.length_append,ysL_len h b]
  show cntB h b+_=bif h b then cntB h b+1 else cntB h b
  cases h b<;>rfl
theorem ysL_mem{h:Nat->Bool}{b y:Nat}:y∈ysL h b↔y<b/\h y=true:=by simp[ysL]
theorem ysL_nodup(h:Nat->Bool)(b:Nat):(ysL h b).Nodup:=(List.nodup_range).filter _
def rowE(n:Nat)(has:Nat->Nat->Bool)(tab:Nat->Nat->Nat->Nat)(i:Nat)(p:Nat->Nat)(b:Nat):List (Nat->Nat):=(ysL (has i) b).map λ y=>mulF n p (tab i y)
theorem rowE_zero(n:Nat)(has:Nat->Nat->Bool)(tab:Nat->Nat->Nat->Nat)(i:Nat)(p:Nat->Nat):rowE n has tab i p 0=[]:=rfl
theorem rowE_yes{n:Nat}{has:Nat->Nat->Bool}{tab:Nat->Nat->Nat->Nat}{i:Nat}{p:Nat->Nat}{b:Nat}(h:has i b=true):rowE n has tab i p (b+1)=rowE n has tab i p b++[mulF n p (tab i b)]:=by
 unfold rowE;rw[ysL_succ,if_pos h,List.map_append];rfl
theorem rowE_no{n:Nat}{has:Nat->Nat->Bool}{tab:Nat->Nat->Nat->Nat}{i:Nat}{p:Nat->Nat}{b:Nat}(h:has i b=false):rowE n has tab i p (b+1)=rowE n has tab i p b:=by
 unfold rowE;rw[ysL_succ,if_neg (by simp[h]),List.append_nil]
theorem rowE_len(n:Nat)(has:Nat->Nat->Bool)(tab:Nat->Nat->Nat->Nat)(i:Nat)(p:Nat->Nat)(b:Nat):(rowE n has tab i p b).length=cntB (has i) b:=by
 unfold rowE;rw[List.length_map,ysL_len]
def levE(n:Nat)(has:Nat->Nat->Bool)(tab:Nat->Nat->Nat->Nat)(i:Nat)(E:List (Nat->Nat)):List (Nat->Nat):=E.flatMap λ p=>rowE n has tab i p 16
def elsE(n:Nat)(has:Nat->Nat->Bool)(tab:Nat->Nat->Nat->Nat):Nat->List (Nat->Nat)
 |0=>[sameF n]
 |d+1=>levE n has tab (n-(d+1)) (elsE n has tab d)
theorem levE_len(n:Nat)(has:Nat->Nat->Bool)(tab:Nat->Nat->Nat->Nat)(i:Nat):∀E,(levE n has tab i E).length=E.length*cntB (has i) 16
 |[]=>by simp[levE]
 |p::E=>by
  have:=levE_len n has tab i E
  unfold levE at this ⊢
  rw[List.flatMap_cons,List.length_append,this,rowE_len,List.length_cons,Nat.succ_mul];omega
theorem levE_take(n:Nat)(has:Nat->Nat->Bool)(tab:Nat->Nat->Nat->Nat)(i:Nat)(E:List (Nat->Nat)){k:Nat}(hk:k<E.length):levE n has tab i (E.take (k+1))=levE n has tab i (E.take k)++rowE n has tab i (E.getD k λ _=>0) 16:=by
 unfold levE
 rw[List.take_add_one,List.getElem?_eq_getElem hk,List.getD_eq_getElem?_getD,List.getElem?_eq_getElem hk]
 simp only[Option.toList_some,List.flatMap_append,List.flatMap_cons,List.flatMap_nil,List.append_nil,Option.getD_some]
theorem els_mem{n:Nat}(hn:n<=16){has:Nat->Nat->Bool}{tab:Nat->Nat->Nat->Nat}(hT:TblOk n has tab):∀{d:Nat},d<=n->∀r,r∈elsE n has tab d↔InT n has tab d r
 |0,_,r=>by
  show r∈[sameF n]↔r=sameF n
  rw[List.mem_singleton]
 |d+1,hd,r=>by
  show r∈levE n has tab (n-(d+1)) (elsE n has tab d)↔∃k,has (n-(d+1)) k=true/\∃h,InT n has tab d h/\r=mulF n h (tab (n-(d+1)) k)
  unfold levE rowE
  simp only[List.mem_flatMap,List.mem_map,ysL_mem]
  constructor
  ·rintro⟨p,hp,y,⟨_,hy⟩,rfl⟩
   exact⟨y,hy,p,(els_mem hn hT (by omega) p).1 hp,rfl⟩
  ·rintro⟨k,hk,h,hh,rfl⟩
   exact⟨h,(els_mem hn hT (by omega) h).2 hh,k,⟨Nat.lt_of_lt_of_le (hT.lt _ k (by omega) hk) hn,hk⟩,rfl⟩
theorem mul_cancelE{n:Nat}(hn:n<=16){p q t:Nat->Nat}(hp:Np n p)(hq:Np n q)(ht:Np n t)(h:mulF n p t=mulF n q t):p=q:=by
 have h2:mulF n (mulF n p t) (backTo t n)=mulF n (mulF n q t) (backTo t n):=congrArg (λ r=>mulF n r (backTo t n)) h
 rw[mul_assoc hp ht (inv_np hn ht),mul_assoc hq ht (inv_np hn ht),mul_inv hn ht,mul_one hp,mul_one hq] at h2
 exact h2
theorem nodup_flat{α β:Type}{f:α->List β}:∀{l:List α},l.Nodup->(∀x∈l,(f x).Nodup)->(∀x∈l,∀y∈l,∀z,z∈f x->z∈f y->x=y)->(l.flatMap f).Nodup
 |[],_,_,_=>by simp
 |a::l,hd,h1,h2=>by
  obtain⟨d1,d2⟩:=List.nodup_cons.1 hd
  rw[List.flatMap_cons]
  refine List.nodup_append.2 ⟨h1 a (.head _),nodup_flat d2 (λ x hx=>h1 x (.tail _ hx)) λ x hx y hy=>h2 x (.tail _ hx) y (.tail _ hy),λ x hx y hy e=>?_⟩
  subst e
  obtain⟨b,hb,hxb⟩:=List.mem_flatMap.1 hy
  have e:=h2 a (.head _) b (.tail _ hb) x hx hxb
  subst e
  exact d1 hb
theorem els_nodup{n:Nat}(hn:n<=16){has:Nat->Nat->Bool}{tab:Nat->Nat->Nat->Nat}(hT:TblOk n has tab):∀{d:Nat},d<=n->(elsE n has tab d).Nodup
 |0,_=>by simp[elsE]
 |d+1,hd=>by
  have hi:n-(d+1)<n:=by omega
  have hnp:∀p∈elsE n has tab d,Np n p/\∀j,j<n-d->p j=j:=λ p hp=>InT.np hT (by omega) ((els_mem hn hT (by omega) p).1 hp)
  have hat:∀p∈elsE n has tab d,∀y,has (n-(d+1)) y=true->mulF n p (tab (n-(d+1)) y) (n-(d+1))=y:=λ p hp y hy=>by
   rw[mul_at hi,(hnp p hp).2 _ (by omega)];exact hT.at_ _ y hi hy
  refine nodup_flat (els_nodup hn hT (by omega)) (λ p hp=>?_) λ p hp q hq z hz hz'=>?_
  ·unfold rowE
   rw[List.nodup_iff_pairwise_ne,List.pairwise_map]
   refine List.Pairwise.imp_of_mem (λ{x y} hx hy hne e=>hne ?_) (List.nodup_iff_pairwise_ne.1 (ysL_nodup _ _))
   have h1:=hat p hp x (ysL_mem.1 hx).2
   rw[e,hat p hp y (ysL_mem.1 hy).2] at h1
   exact h1.symm
  ·unfold rowE at hz hz'
   obtain⟨x,hx,rfl⟩:=List.mem_map.1 hz
   obtain⟨y,hy,e⟩:=List.mem_map.1 hz'
   have h1:=hat p hp x (ysL_mem.1 hx).2
   rw[<-e,hat q hq y (ysL_mem.1 hy).2] at h1
   subst h1
   exact(mul_cancelE hn (hnp q hq).1 (hnp p hp).1 (hT.np _ _ hi (ysL_mem.1 hx).2) e).symm
theorem els_len{n:Nat}(hn:n<=16){has:Nat->Nat->Bool}(tab:Nat->Nat->Nat->Nat):∀d,d<=n->(elsE n has tab d).length*ordF 16 has (n-d)=ordF 16 has n
 |0,_=>by simp[elsE]
 |d+1,hd=>by
  have ih:=els_len hn (has:=has) tab d (by omega)
  show(levE n has tab (n-(d+1)) (elsE n has tab d)).length*_=_
  rw[levE_len, <-ih,show n-d=(n-(d+1))+1 by omega]
  show _=_*(ordF 16 has (n-(d+1))*cntB (has (n-(d+1))) 16)
  rw[Nat.mul_assoc,Nat.mul_comm (cntB _ _)]
theorem els_le{n:Nat}(hn:n<=16){has:Nat->Nat->Bool}{tab:Nat->Nat->Nat->Nat}(hT:TblOk n has tab){d:Nat}(hd:d<=n):(elsE n has tab d).length<=ordF 16 has n:=by
 rw[<-els_len hn tab d hd]
 exact Nat.le_mul_of_pos_right _ (ord_pos _ λ l hl=>cntB_pos 16 (j:=l) (by omega) (hT.diag l (by omega)).1)
def dfsE(n:Nat)(has:Nat->Nat->Bool)(tab:Nat->Nat->Nat->Nat):Nat->(Nat->Nat)->List (Nat->Nat)
 |0,p=>[p]
 |i+1,p=>(ysL (has i) n).flatMap λ y=>dfsE n has tab i (mulF n p (tab i y))
def accE(n:Nat)(has:Nat->Nat->Bool)(tab:Nat->Nat->Nat->Nat)(i:Nat)(p:Nat->Nat)(b:Nat):List (Nat->Nat):=(ysL (has i) b).flatMap λ y=>dfsE n has tab i (mulF n p (tab i y))
theorem accE_yes{n:Nat}{has:Nat->Nat->Bool}{tab:Nat->Nat->Nat->Nat}{i:Nat}{p:Nat->Nat}{b:Nat}(h:has i b=true):accE n has tab i p (b+1)=accE n has tab i p b++dfsE n has tab i (mulF n p (tab i b)):=by
 unfold accE;rw[ysL_succ,if_pos h,List.flatMap_append];simp only[List.flatMap_cons,List.flatMap_nil,List.append_nil]
theorem accE_no{n:Nat}{has:Nat->Nat->Bool}{tab:Nat->Nat->Nat->Nat}{i:Nat}{p:Nat->Nat}{b:Nat}(h:has i b=false):accE n has tab i p (b+1)=accE n has tab i p b:=by
 unfold accE;rw[ysL_succ,if_neg (by simp[h]),List.append_nil]
theorem accE_none{n:Nat}{has:Nat->Nat->Bool}{tab:Nat->Nat->Nat->Nat}{i:Nat}{p:Nat->Nat}{b:Nat}(h:∀y,y<b->has i y=false):accE n has tab i p b=[]:=by
 unfold accE
 rw[show ysL (has i) b=[] from ?_]
 ·rfl
 ·unfold ysL;rw[List.filter_eq_nil_iff];intro y hy;rw[h y (List.mem_range.1 hy)];exact Bool.false_ne_true
theorem accE_mono(n:Nat)(has:Nat->Nat->Bool)(tab:Nat->Nat->Nat->Nat)(i:Nat)(p:Nat->Nat)(b:Nat):(accE n has tab i p b).length<=(accE n has tab i p (b+1)).length:=by
 cases h:has i b
 ·rw[accE_no h];exact Nat.le_refl _
 ·rw[accE_yes h,List.length_append];omega
theorem accE_le(n:Nat)(has:Nat->Nat->Bool)(tab:Nat->Nat->Nat->Nat)(i:Nat)(p:Nat->Nat)(b:Nat):∀c,(accE n has tab i p b).length<=(accE n has tab i p (b+c)).length
 |0=>Nat.le_refl _
 |c+1=>Nat.le_trans (accE_le n has tab i p b c) (accE_mono n has tab i p (b+c))
theorem ysL_over{h:Nat->Bool}{n:Nat}(hh:∀y,h y=true->y<n):∀c,ysL h (n+c)=ysL h n
 |0=>rfl
 |c+1=>by
  rw[show n+(c+1)=(n+c)+1 from rfl,ysL_succ,ysL_over hh c]
  cases e:h (n+c)
  ·simp
  ·have:=hh _ e;omega
theorem dfs_els{n:Nat}(hn:n<=16){has:Nat->Nat->Bool}{tab:Nat->Nat->Nat->Nat}(hT:TblOk n has tab):∀d,d<=n->(elsE n has tab d).flatMap (dfsE n has tab (n-d))=dfsE n has tab n (sameF n)
 |0,_=>by simp[elsE]
 |d+1,hd=>by
  rw[<-dfs_els hn hT d (by omega)]
  show(levE n has tab (n-(d+1)) (elsE n has tab d)).flatMap _=_
  unfold levE
  rw[List.flatMap_assoc]
  congr 1
  funext p
  rw[show n-d=(n-(d+1))+1 by omega]
  show _=(ysL (has (n-(d+1))) n).flatMap λ y=>dfsE n has tab (n-(d+1)) (mulF n p (tab (n-(d+1)) y))
  unfold rowE
  rw[List.flatMap_map]
  have e:ysL (has (n-(d+1))) 16=ysL (has (n-(d+1))) n:=by
   have:=ysL_over (h:=has (n-(d+1))) (n:=n) (λ y hy=>hT.lt _ y (by omega) hy) (16-n)
   rwa [show n+(16-n)=16 by omega] at this
  rw[e]
theorem dfs_all{n:Nat}(hn:n<=16){has:Nat->Nat->Bool}{tab:Nat->Nat->Nat->Nat}(hT:TblOk n has tab):dfsE n has tab n (sameF n)=elsE n has tab n:=by
 rw[<-dfs_els hn hT n (Nat.le_refl _),Nat.sub_self]
 show(elsE n has tab n).flatMap (λ p=>[p])=_
 exact List.flatMap_singleton' _
end Go.Proofs.YthjnmlpibafbnaaGreat

namespace Go.Proofs.YthjnmlpibafbnaaGreat
open Go.RowKit DM
set_option linter.unusedVariables false
set_option linter.unusedSimpArgs false
def lexL:List Nat->List Nat->Int
 |[],[]=>0
 |[],_::_=>-1
 |_::_,[]=>1
 |a::l,b::k=>if a<b then-1 else if b<a then 1 else lexL l k
theorem lex_rng:∀l k:List Nat,lexL l k=-1\/lexL l k=0\/lexL l k=1
 |[],[]=>.inr (.inl rfl)
 |[],_::_=>.inl rfl
 |_::_,[]=>.inr (.inr rfl)
 |a::l,b::k=>by
  simp only[lexL]
  split
  ·exact .inl rfl
  ·split
   ·exact .inr (.inr rfl)
   ·exact lex_rng l k
theorem lex_eq:∀{l k:List Nat},lexL l k=0↔l=k
 |[],[]=>by simp[lexL]
 |[],_::_=>by simp[lexL]
 |_::_,[]=>by simp[lexL]
 |a::l,b::k=>by
  simp only[lexL,List.cons.injEq]
  by_cases h1:a<b
  ·rw[if_pos h1];exact⟨λ h=>by omega,λ h=>by omega⟩
  ·rw[if_neg h1]
   by_cases h2:b<a
   ·rw[if_pos h2];exact⟨λ h=>by omega,λ h=>by omega⟩
   ·rw[if_neg h2,lex_eq (l:=l) (k:=k)];exact⟨λ h=>⟨by omega,h⟩,λ h=>h.2⟩
theorem lex_anti:∀l k:List Nat,lexL l k=-lexL k l
 |[],[]=>rfl
 |[],_::_=>rfl
 |_::_,[]=>rfl
 |a::l,b::k=>by
  simp only[lexL]
  by_cases h1:a<b
  ·rw[if_pos h1,if_neg (by omega),if_pos h1]
  ·by_cases h2:b<a
   ·rw[if_neg h1,if_pos h2,if_pos h2];rfl
   ·rw[if_neg h1,if_neg h2,if_neg h2,if_neg h1,lex_anti l k]
theorem lex_trans:∀{l k j:List Nat},lexL l k<0->lexL k j<0->lexL l j<0
 |[],[],_,h,_=>by simp[lexL] at h
 |[],_::_,[],_,h=>by simp[lexL] at h
 |[],_::_,_::_,_,_=>by simp[lexL]
 |_::_,[],_,h,_=>by simp[lexL] at h
 |_::_,_::_,[],_,h=>by simp[lexL] at h
 |a::l,b::k,c::j,h1,h2=>by
  simp only[lexL] at h1 h2 ⊢
  by_cases a1:a<b
  ·by_cases b1:c<b
   ·rw[if_neg (by omega),if_pos b1] at h2;omega
   ·rw[if_pos (by omega)];omega
  ·rw[if_neg a1] at h1
   by_cases a2:b<a
   ·rw[if_pos a2] at h1;omega
   ·rw[if_neg a2] at h1
    have e:a=b:=by omega
    subst e
    by_cases b1:a<c
    ·rw[if_pos b1];omega
    ·rw[if_neg b1] at h2 ⊢
     by_cases b2:c<a
     ·rw[if_pos b2] at h2;omega
     ·rw[if_neg b2] at h2 ⊢
      exact lex_trans h1 h2
def befL(l k:List Nat):Int:=if l.length<k.length then-1 else if k.length<l.length then 1 else lexL l k
theorem bef_rng(l k:List Nat):befL l k=-1\/befL l k=0\/befL l k=1:=by
 unfold befL
 split
 ·exact .inl rfl
 ·split
  ·exact .inr (.inr rfl)
  ·exact lex_rng l k
theorem bef_eq{l k:List Nat}:befL l k=0↔l=k:=by
 unfold befL
 by_cases h1:l.length<k.length
 ·rw[if_pos h1];exact⟨λ h=>by omega,λ h=>by subst h;omega⟩
 ·rw[if_neg h1]
  by_cases h2:k.length<l.length
  ·rw[if_pos h2];exact⟨λ h=>by omega,λ h=>by subst h;omega⟩
  ·rw[if_neg h2];exact lex_eq
theorem bef_anti(l k:List Nat):befL l k=-befL k l:=by
 unfold befL
 by_cases h1:l.length<k.length
 ·rw[if_pos h1,if_neg (by omega),if_pos h1]
 ·by_cases h2:k.length<l.length
  ·rw[if_neg h1,if_pos h2,if_pos h2];rfl
  ·rw[if_neg h1,if_neg h2,if_neg h2,if_neg h1,lex_anti]
theorem bef_trans{l k j:List Nat}(h1:befL l k<0)(h2:befL k j<0):befL l j<0:=by
 unfold befL at*
 by_cases a1:l.length<k.length
 ·by_cases b1:j.length<k.length
  ·rw[if_neg (by omega),if_pos b1] at h2;omega
  ·rw[if_pos (by omega)];omega
 ·rw[if_neg a1] at h1
  by_cases a2:k.length<l.length
  ·rw[if_pos a2] at h1;omega
  ·rw[if_neg a2] at h1
   by_cases b1:k.length<j.length
   ·rw[if_pos (by omega)];omega
   ·rw[if_neg b1] at h2
    by_cases b2:j.length<k.length
    ·rw[if_pos b2] at h2;omega
    ·rw[if_neg b2] at h2
     rw[if_neg (by omega),if_neg (by omega)]
     exact lex_trans h1 h2
theorem bef_irr(l:List Nat):¬befL l l<0:=by rw[bef_eq.2 rfl];omega
theorem bef_asym{l k:List Nat}(h:befL l k<0):¬befL k l<0:=by rw[bef_anti] at h;omega
def Srt(L:List (List Nat)):Prop:=L.Pairwise λ l k=>befL l k<0
theorem srt_unique:∀{L K:List (List Nat)},Srt L->Srt K->(∀x,x∈L↔x∈K)->L=K
 |[],[],_,_,_=>rfl
 |[],b::K,_,_,h=>absurd ((h b).2 (.head _)) List.not_mem_nil
 |a::L,[],_,_,h=>absurd ((h a).1 (.head _)) List.not_mem_nil
 |a::L,b::K,hL,hK,h=>by
  obtain⟨hL1,hL2⟩:=List.pairwise_cons.1 hL
  obtain⟨hK1,hK2⟩:=List.pairwise_cons.1 hK
  have e:a=b:=by
   rcases List.mem_cons.1 ((h a).1 (.head _)) with e|h1
   ·exact e
   ·rcases List.mem_cons.1 ((h b).2 (.head _)) with e|h2
    ·exact e.symm
    ·exact absurd (hK1 a h1) (bef_asym (hL1 b h2))
  subst e
  rw[srt_unique (L:=L) (K:=K) hL2 hK2 λ x=>⟨λ hx=>by
   rcases List.mem_cons.1 ((h x).1 (.tail _ hx)) with e|h1
   ·subst e;exact absurd (hL1 x hx) (bef_irr x)
   ·exact h1,λ hx=>by
   rcases List.mem_cons.1 ((h x).2 (.tail _ hx)) with e|h1
   ·subst e;exact absurd (hK1 x hx) (bef_irr x)
   ·exact h1⟩]
theorem srt_ins{L:List (List Nat)}(h:Srt L){own:List Nat}{at_:Nat}(h1:∀j,j<at_->befL (L.getD j []) own<0)(h2:at_<=L.length)(h3:at_<L.length->befL own (L.getD at_ [])<0):Srt (L.take at_++own::L.drop at_)/\∀x,x∈L.take at_++own::L.drop at_↔x=own\/x∈L:=by
 have gd:∀j,(hj:j<L.length)->L.getD j []=L[j]:=λ j hj=>by rw[List.getD_eq_getElem?_getD,List.getElem?_eq_getElem hj];rfl
 have htk:∀x∈L.take at_,befL x own<0:=λ x hx=>by
  obtain⟨j,hj,rfl⟩:=List.getElem_of_mem hx
  rw[List.length_take] at hj
  have:=h1 j (by omega)
  rw[gd j (by omega)] at this
  rw[List.getElem_take];exact this
 have hdr:∀x∈L.drop at_,befL own x<0:=λ x hx=>by
  obtain⟨j,hj,rfl⟩:=List.getElem_of_mem hx
  rw[List.length_drop] at hj
  have h4:=h3 (by omega)
  rw[gd at_ (by omega)] at h4
  rw[List.getElem_drop]
  cases j with
  |zero=>exact h4
  |succ j=>exact bef_trans h4 (List.pairwise_iff_getElem.1 h at_ (at_+(j+1)) (by omega) (by omega) (by omega))
 refine⟨List.pairwise_append.2 ⟨h.sublist (List.take_sublist _ _),List.pairwise_cons.2 ⟨hdr,h.sublist (List.drop_sublist _ _)⟩,λ x hx y hy=>?_⟩,λ x=>?_⟩
 ·rcases List.mem_cons.1 hy with rfl|hy
  ·exact htk x hx
  ·exact bef_trans (htk x hx) (hdr y hy)
 ·have e:x∈L↔x∈L.take at_\/x∈L.drop at_:=by rw[<-List.mem_append,List.take_append_drop]
  rw[e,List.mem_append,List.mem_cons]
  constructor
  ·rintro(h|h|h)
   ·exact .inr (.inl h)
   ·exact .inl h
   ·exact .inr (.inr h)
  ·rintro(h|h|h)
   ·exact .inr (.inl h)
   ·exact .inl h
   ·exact .inr (.inr h)
def cmpL:List (List Nat)->List (List Nat)
 |[]=>[]
 |[a]=>[a]
 |a::b::L=>if a=b then cmpL (b::L) else a::cmpL (b::L)
theorem cmp_mem:∀{L:List (List Nat)}{x:List Nat},x∈cmpL L↔x∈L
 |[],x=>Iff.rfl
 |[a],x=>Iff.rfl
 |a::b::L,x=>by
  simp only[cmpL]
  have ih:=cmp_mem (L:=b::L) (x:=x)
  by_cases e:a=b
  ·rw[if_pos e,ih,e];simp
  ·rw[if_neg e,List.mem_cons,ih];simp
theorem cmp_srt:∀{L:List (List Nat)},(L.Pairwise λ l k=>befL l k<=0)->Srt (cmpL L)
 |[],_=>.nil
 |[a],_=>List.pairwise_singleton _ _
 |a::b::L,h=>by
  obtain⟨h1,h2⟩:=List.pairwise_cons.1 h
  have ih:=cmp_srt (L:=b::L) h2
  simp only[cmpL]
  by_cases e:a=b
  ·rw[if_pos e];exact ih
  ·rw[if_neg e]
   refine List.pairwise_cons.2 ⟨λ x hx=>?_,ih⟩
   have hx:=cmp_mem.1 hx
   have hab:befL a b<0:=by
    have h3:=h1 b (.head _)
    have:befL a b≠0:=λ h=>e (bef_eq.1 h)
    omega
   rcases List.mem_cons.1 hx with rfl|hx
   ·exact hab
   ·have h4:=(List.pairwise_cons.1 h2).1 x hx
    by_cases e2:befL b x=0
    ·rw[<-bef_eq.1 e2];exact hab
    ·exact bef_trans hab (by omega)
end Go.Proofs.YthjnmlpibafbnaaGreat
