import Derived.Test.YthjnmlpibafbnaaGreatL35
import Derived.Test.YthjnmlpibafbnaaGreatL4
import Derived.Test.YthjnmlpibafbnaaGreatL22
import Derived.Test.YthjnmlpibafbnaaGreatX6
import Derived.Test.YthjnmlpibafbnaaGreatD31
namespace Go.Proofs.YthjnmlpibafbnaaGreat
open Go.RowKit DM
set_option linter.unusedVariables false
set_option linter.unusedSimpArgs false
theorem lex_irr(l:List Nat):¬lexL l l<0:=by rw[lex_eq.2 rfl];omega
theorem lex_asym{l k:List Nat}(h:lexL l k<0):¬lexL k l<0:=by rw[lex_anti] at h;omega
def SrtX(L:List (List Nat)):Prop:=L.Pairwise λ l k=>lexL l k<0
theorem srtx_unique:∀{L K:List (List Nat)},SrtX L->SrtX K->(∀x,x∈L↔x∈K)->L=K
 |[],[],_,_,_=>rfl
 |[],b::K,_,_,h=>absurd ((h b).2 (.head _)) List.not_mem_nil
 |a::L,[],_,_,h=>absurd ((h a).1 (.head _)) List.not_mem_nil
 |a::L,b::K,hL,hK,h=>by
  obtain⟨hL1,hL2⟩:=List.pairwise_cons.1 hL
  obtain⟨hK1,hK2⟩:=List.pairwise_cons.1 hK
  have e:a=b:=by
   rcases List.mem_cons.1 ((h a).1 (.head _)) with e|h1
   ·exact e
   ·rcases List.mem_cons.1 ((h b).2 (.head _)) with e|h2
    ·exact e.symm
    ·exact absurd (hK1 a h1) (lex_asym (hL1 b h2))
  subst e
  rw[srtx_unique (L:=L) (K:=K) hL2 hK2 λ x=>⟨λ hx=>by
   rcases List.mem_cons.1 ((h x).1 (.tail _ hx)) with e|h1
   ·subst e;exact absurd (hL1 x hx) (lex_irr x)
   ·exact h1,λ hx=>by
   rcases List.mem_cons.1 ((h x).2 (.tail _ hx)) with e|h1
   ·subst e;exact absurd (hK1 x hx) (lex_irr x)
   ·exact h1⟩]
theorem srtx_ins{L:List (List Nat)}(h:SrtX L){own:List Nat}{at_:Nat}(h1:∀j,j<at_->lexL (L.getD j []) own<0)(h2:at_<=L.length)(h3:at_<L.length->lexL own (L.getD at_ [])<0):SrtX (L.take at_++own::L.drop at_)/\∀x,x∈L.take at_++own::L.drop at_↔x=own\/x∈L:=by
 have gd:∀j,(hj:j<L.length)->L.getD j []=L[j]:=λ j hj=>by rw[List.getD_eq_getElem?_getD,List.getElem?_eq_getElem hj];rfl
 have htk:∀x∈L.take at_,lexL x own<0:=λ x hx=>by
  obtain⟨j,hj,rfl⟩:=List.getElem_of_mem hx
  rw[List.length_take] at hj
  have:=h1 j (by omega)
  rw[gd j (by omega)] at this
  rw[List.getElem_take];exact this
 have hdr:∀x∈L.drop at_,lexL own x<0:=λ x hx=>by
  obtain⟨j,hj,rfl⟩:=List.getElem_of_mem hx
  rw[List.length_drop] at hj
  have h4:=h3 (by omega)
  rw[gd at_ (by omega)] at h4
  rw[List.getElem_drop]
  cases j with
  |zero=>exact h4
  |succ j=>exact lex_trans h4 (List.pairwise_iff_getElem.1 h at_ (at_+(j+1)) (by omega) (by omega) (by omega))
 refine⟨List.pairwise_append.2 ⟨h.sublist (List.take_sublist _ _),List.pairwise_cons.2 ⟨hdr,h.sublist (List.drop_sublist _ _)⟩,λ x hx y hy=>?_⟩,λ x=>?_⟩
 ·rcases List.mem_cons.1 hy with rfl|hy
  ·exact htk x hx
  ·exact lex_trans (htk x hx) (hdr y hy)
 ·have e:x∈L↔x∈L.take at_\/x∈L.drop at_:=by rw[<-List.mem_append,List.take_append_drop]
  rw[e,List.mem_append,List.mem_cons]
  constructor
  ·rintro(h|h|h)
   ·exact .inr (.inl h)
   ·exact .inl h
   ·exact .inr (.inr h)
  ·rintro(h|h|h)
   ·exact .inr (.inl h)
   ·exact .inl h
   ·exact .inr (.inr h)
def atX(own:List Nat):List (List Nat)->Nat
 |[]=>0
 |a::L=>if lexL a own<0 then atX own L+1 else 0
theorem atX_le(own:List Nat):∀L,atX own L<=L.length
 |[]=>Nat.le_refl _
 |a::L=>by
  have:=atX_le own L
  simp only[atX,List.length_cons]
  split<;>omega
theorem atX_lt(own:List Nat):∀{L:List (List Nat)}{j:Nat},j<atX own L->lexL (L.getD j []) own<0
 |[],j,h=>by simp[atX] at h
 |a::L,j,h=>by
  simp only[atX] at h
  split at h
  ·rename_i h1
   cases j with
   |zero=>exact h1
   |succ j=>exact atX_lt own (L:=L) (by omega)
  ·omega
theorem atX_at(own:List Nat):∀{L:List (List Nat)},atX own L<L.length->¬lexL (L.getD (atX own L) []) own<0
 |[],h=>by simp[atX] at h
 |a::L,h=>by
  simp only[atX] at h ⊢
  split
  ·rename_i h1
   rw[if_pos h1] at h
   exact atX_at own (L:=L) (by simpa using h)
  ·rename_i h1;exact h1
theorem atX_eq{own:List Nat}{L:List (List Nat)}{k:Nat}(hk:k<=L.length)(h1:∀j,j<k->lexL (L.getD j []) own<0)(h2:k<L.length->¬lexL (L.getD k []) own<0):k=atX own L:=by
 rcases Nat.lt_trichotomy k (atX own L) with h|h|h
 ·exact absurd (atX_lt own h) (h2 (Nat.lt_of_lt_of_le h (atX_le own L)))
 ·exact h
 ·exact absurd (h1 _ h) (atX_at own (by omega))
def insX(own:List Nat)(L:List (List Nat)):List (List Nat):=if atX own L<L.length/\lexL (L.getD (atX own L) []) own=0 then L else L.take (atX own L)++own::L.drop (atX own L)
theorem insx_srt{own:List Nat}{L:List (List Nat)}(h:SrtX L):SrtX (insX own L)/\∀x,x∈insX own L↔x=own\/x∈L:=by
 unfold insX
 split
 ·rename_i hc
  refine⟨h,λ x=>⟨.inr,λ hx=>?_⟩⟩
  rcases hx with rfl|hx
  ·have e:=lex_eq.1 hc.2
   rw[List.getD_eq_getElem?_getD,List.getElem?_eq_getElem hc.1] at e
   rw[<-e];exact List.getElem_mem hc.1
  ·exact hx
 ·rename_i hc
  refine srtx_ins h (λ j hj=>atX_lt own hj) (atX_le own L) λ hl=>?_
  have h1:=atX_at own hl
  have h2:lexL (L.getD (atX own L) []) own≠0:=λ h=>hc ⟨hl,h⟩
  rw[lex_anti]
  have:=lex_rng (L.getD (atX own L) []) own
  omega
theorem insx_len(own:List Nat)(L:List (List Nat)):(insX own L).length<=L.length+1:=by
 have:=atX_le own L
 unfold insX
 split
 ·omega
 ·simp only[List.length_append,List.length_cons,List.length_take,List.length_drop];omega
def dL(X:List (List Nat)):List (List Nat):=X.foldl (λ D t=>insX t D) []
theorem dL_snoc(X:List (List Nat))(t:List Nat):dL (X++[t])=insX t (dL X):=by simp[dL]
theorem rev_ind{P:List (List Nat)->Prop}(h0:P [])(h1:∀X t,P X->P (X++[t]))(X:List (List Nat)):P X:=by
 have:∀n,∀X:List (List Nat),X.length=n->P X:=by
  intro n
  induction n with
  |zero=>intro X h;rw[List.eq_nil_of_length_eq_zero h];exact h0
  |succ n ih=>
   intro X h
   have hne:X≠[]:=λ e=>by subst e;simp at h
   rw[<-List.dropLast_concat_getLast hne]
   exact h1 _ _ (ih _ (by simp[h]))
 exact this _ X rfl
theorem dL_ok(X:List (List Nat)):SrtX (dL X)/\∀x,x∈dL X↔x∈X:=by
 refine rev_ind (P:=λ X=>SrtX (dL X)/\∀x,x∈dL X↔x∈X) ⟨.nil,λ x=>Iff.rfl⟩ (λ X t h=>?_) X
 obtain⟨h1,h2⟩:=insx_srt (own:=t) h.1
 rw[dL_snoc]
 exact⟨h1,λ x=>by rw[h2,h.2,List.mem_append,List.mem_singleton,or_comm]⟩
theorem dL_len(X:List (List Nat)):(dL X).length<=X.length:=by
 refine rev_ind (P:=λ X=>(dL X).length<=X.length) (Nat.le_refl _) (λ X t h=>?_) X
 have:=insx_len t (dL X)
 rw[dL_snoc,List.length_append,List.length_singleton];omega
theorem dL_perm{X Y:List (List Nat)}(h:X.Perm Y):dL X=dL Y:=
 srtx_unique (dL_ok X).1 (dL_ok Y).1 λ x=>by rw[(dL_ok X).2,(dL_ok Y).2,h.mem_iff]
def cnX(X:List (List Nat))(D:List (List Nat)):List Nat:=D.map λ t=>X.count t
theorem cnX_len(X D:List (List Nat)):(cnX X D).length=D.length:=by simp[cnX]
theorem cnX_perm{X Y:List (List Nat)}(h:X.Perm Y)(D:List (List Nat)):cnX X D=cnX Y D:=by
 unfold cnX
 exact List.map_congr_left λ t _=>h.count_eq t
theorem cnX_get(X D:List (List Nat)){j:Nat}(hj:j<D.length):(cnX X D).getD j 0=X.count (D.getD j []):=by
 unfold cnX
 simp[List.getD_eq_getElem?_getD,List.getElem?_eq_getElem hj]
theorem cnX_le(X D:List (List Nat))(j:Nat):(cnX X D).getD j 0<=X.length:=by
 by_cases h:j<D.length
 ·rw[cnX_get X D h];exact List.count_le_length
 ·rw[List.getD_eq_getElem?_getD,List.getElem?_eq_none (by rw[cnX_len];omega)];exact Nat.zero_le _
theorem cnX_hit{X D:List (List Nat)}(hD:SrtX D){a:Nat}(ha:a<D.length){t:List Nat}(e:D.getD a []=t){j:Nat}(hj:j<D.length):(cnX (X++[t]) D).getD j 0=if j=a then(cnX X D).getD a 0+1 else(cnX X D).getD j 0:=by
 rw[cnX_get _ _ hj,List.count_append,List.count_singleton]
 by_cases h:j=a
 ·subst h;rw[if_pos rfl,cnX_get _ _ hj,e,if_pos (by simp)]
 ·rw[if_neg h,cnX_get _ _ hj,if_neg]
  ·rfl
  ·intro h2
   have h2:t=D.getD j []:=by simpa using h2
   rw[<-e] at h2
   simp only[List.getD_eq_getElem?_getD,List.getElem?_eq_getElem hj,List.getElem?_eq_getElem ha,Option.getD_some] at h2
   have hp:=List.pairwise_iff_getElem.1 hD
   rcases Nat.lt_trichotomy j a with h3|h3|h3
   ·have:=hp j a hj ha h3;rw[h2] at this;exact lex_irr _ this
   ·exact h h3
   ·have:=hp a j ha hj h3;rw[h2] at this;exact lex_irr _ this
theorem cnX_new{X D:List (List Nat)}{t:List Nat}(ht:t∉X)(htD:t∉D)(a:Nat):cnX (X++[t]) (D.take a++t::D.drop a)=(cnX X D).take a++1::(cnX X D).drop a:=by
 have h1:∀K:List (List Nat),t∉K->K.map (λ d=>(X++[t]).count d)=K.map λ d=>X.count d:=λ K hK=>List.map_congr_left λ d hd=>by
  rw[List.count_append,List.count_singleton,if_neg]
  ·rfl
  ·intro h;have h:t=d:=by simpa using h
   subst h;exact hK hd
 unfold cnX
 rw[List.map_append,List.map_cons,h1 _ (λ h=>htD (List.mem_of_mem_take h)),h1 _ (λ h=>htD (List.mem_of_mem_drop h)),List.map_take,List.map_drop,List.count_append,List.count_eq_zero.2 ht,List.count_singleton]
 simp
theorem insX_hit{t:List Nat}{D:List (List Nat)}(h:atX t D<D.length/\lexL (D.getD (atX t D) []) t=0):insX t D=D:=if_pos h
theorem insX_new{t:List Nat}{D:List (List Nat)}(h:¬(atX t D<D.length/\lexL (D.getD (atX t D) []) t=0)):insX t D=D.take (atX t D)++t::D.drop (atX t D):=if_neg h
theorem insX_not{t:List Nat}{D:List (List Nat)}(hD:SrtX D)(h:¬(atX t D<D.length/\lexL (D.getD (atX t D) []) t=0)):t∉D:=by
 intro hm
 obtain⟨j,hj,e⟩:=List.getElem_of_mem hm
 have hp:=List.pairwise_iff_getElem.1 hD
 have hgd:∀k,(hk:k<D.length)->D.getD k []=D[k]:=λ k hk=>by rw[List.getD_eq_getElem?_getD,List.getElem?_eq_getElem hk];rfl
 have h1:atX t D=j:=by
  refine(atX_eq (Nat.le_of_lt hj) (λ i hi=>?_) (λ _=>?_)).symm
  ·rw[hgd i (by omega), <-e];exact hp i j (by omega) hj hi
  ·rw[hgd j hj,e];exact lex_irr t
 exact h ⟨by omega,by rw[h1,hgd j hj,e];exact lex_eq.2 rfl⟩
theorem dL_last{X:List (List Nat)}{t:List Nat}(hs:∀x∈X,lexL x t<=0):dL (X++[t])=if dL X≠[]/\(dL X).getD ((dL X).length-1) []=t then dL X else dL X++[t]:=by
 obtain⟨h1,h2⟩:=dL_ok X
 have hgd:∀k,(hk:k<(dL X).length)->(dL X).getD k []=(dL X)[k]:=λ k hk=>by rw[List.getD_eq_getElem?_getD,List.getElem?_eq_getElem hk];rfl
 have hle:∀k,(hk:k<(dL X).length)->lexL ((dL X).getD k []) t<=0:=λ k hk=>by
  rw[hgd k hk];exact hs _ ((h2 _).1 (List.getElem_mem hk))
 have hp:=List.pairwise_iff_getElem.1 h1
 rw[dL_snoc]
 by_cases hc:dL X≠[]/\(dL X).getD ((dL X).length-1) []=t
 ·rw[if_pos hc]
  obtain⟨c1,c2⟩:=hc
  have hl:0<(dL X).length:=List.length_pos_iff.2 c1
  have h3:atX t (dL X)=(dL X).length-1:=by
   refine(atX_eq (by omega) (λ j hj=>?_) (λ _=>?_)).symm
   ·have:=hp j ((dL X).length-1) (by omega) (by omega) hj
    rw[hgd j (by omega), <-c2,hgd ((dL X).length-1) (by omega)];exact this
   ·rw[c2];exact lex_irr t
  exact insX_hit ⟨by omega,by rw[h3,c2];exact lex_eq.2 rfl⟩
 ·rw[if_neg hc]
  have h3:atX t (dL X)=(dL X).length:=by
   refine(atX_eq (Nat.le_refl _) (λ j hj=>?_) (λ h=>absurd h (Nat.lt_irrefl _))).symm
   have h4:=hle j hj
   by_cases e:lexL ((dL X).getD j []) t=0
   ·have e:=lex_eq.1 e
    refine absurd ⟨λ h=>by rw[h] at hj;simp at hj,?_⟩ hc
    by_cases ej:j=(dL X).length-1
    ·rw[<-ej];exact e
    ·have h5:=hp j ((dL X).length-1) hj (by omega) (by omega)
     have h6:=hle ((dL X).length-1) (by omega)
     rw[<-hgd j hj,e, <-hgd ((dL X).length-1) (by omega)] at h5
     rw[lex_anti] at h5
     have h7:lexL ((dL X).getD ((dL X).length-1) []) t>0:=by omega
     omega
   ·omega
  rw[insX_new (λ h=>by omega),h3,List.take_length,List.drop_length]
end Go.Proofs.YthjnmlpibafbnaaGreat

namespace Go.Proofs.YthjnmlpibafbnaaGreat
open Go.RowKit DM
set_option linter.unusedVariables false
set_option linter.unusedSimpArgs false
structure ElOk(N:Nat)(L:List (Nat->Nat))(E:List (Nat->Nat)):Prop where
 nodup:E.Nodup
 mem:∀r,r∈E↔Grp N L r
noncomputable def elG (N:Nat)(L:List (Nat->Nat)):List (Nat->Nat):=@dite _ (∃E,ElOk N L E) (Classical.propDecidable _) (λ h=>Classical.choose h) λ _=>[]
theorem ElOk.perm{N:Nat}{L E:List (Nat->Nat)}(h:ElOk N L E):E.Perm (elG N L):=by
 have h2:ElOk N L (elG N L):=by
  unfold elG
  rw[dif_pos ⟨E,h⟩]
  exact Classical.choose_spec (⟨E,h⟩:∃E,ElOk N L E)
 classical
 exact(List.perm_ext_iff_of_nodup h.nodup h2.nodup).2 λ r=>by rw[h.mem,h2.mem]
theorem els_ok{N:Nat}(hN:N<=16){L:List (Nat->Nat)}(hL:∀g∈L,Np N g){has:Nat->Nat->Bool}{tab:Nat->Nat->Nat->Nat}(hT:TblOk N has tab)(h:∀g,Np N g->(InT N has tab N g↔Grp N L g)):ElOk N L (elsE N has tab N) where
 nodup:=els_nodup hN hT (Nat.le_refl _)
 mem:=λ r=>by
  rw[els_mem hN hT (Nat.le_refl _)]
  exact⟨λ h1=>(h r (InT.np hT (Nat.le_refl _) h1).1).1 h1,λ h1=>(h r (h1.np hL)).2 h1⟩
def tyL(N:Nat)(E:List (Nat->Nat)):List (List Nat):=E.map λ p=>tyN (cycs p N) N
theorem tyL_len(N:Nat)(E:List (Nat->Nat)):(tyL N E).length=E.length:=by simp[tyL]
theorem tyL_take(N:Nat)(E:List (Nat->Nat)){i:Nat}(hi:i<E.length):(tyL N E).take (i+1)=(tyL N E).take i++[tyN (cycs (E.getD i λ _=>0) N) N]:=by
 rw[List.take_add_one,List.getElem?_eq_getElem (by rw[tyL_len];exact hi),List.getD_eq_getElem?_getD,List.getElem?_eq_getElem hi]
 simp[tyL]
theorem tyN_small{N:Nat}(hN:N<=16){p:Nat->Nat}(hp:Perm N p):(tyN (cycs p N) N).length<=16:=by
 rw[tyN_len (cycs_lens hN hp)]
 exact Nat.le_trans (cyTo_len p N) hN
theorem tyL_small{N:Nat}(hN:N<=16){E:List (Nat->Nat)}(hE:∀p∈E,Np N p):∀l∈tyL N E,l.length<=16:=λ l hl=>by
 obtain⟨p,hp,rfl⟩:=List.mem_map.1 hl
 exact tyN_small hN (hE p hp).perm
noncomputable def etD (N:Nat)(L:List (Nat->Nat)):List (List Nat):=dL (tyL N (elG N L))
noncomputable def etC (N:Nat)(L:List (Nat->Nat)):List Nat:=cnX (tyL N (elG N L)) (etD N L)
theorem et_of{N:Nat}{L E:List (Nat->Nat)}(h:ElOk N L E){T:List (List Nat)}(hT:T.Perm (tyL N E)):dL T=etD N L/\cnX T (dL T)=etC N L:=by
 have hp:T.Perm (tyL N (elG N L)):=hT.trans (h.perm.map _)
 have e:dL T=etD N L:=dL_perm hp
 refine⟨e,?_⟩
 unfold etC
 rw[e]
 exact cnX_perm hp _
theorem dL_small{X:List (List Nat)}(h:∀l∈X,l.length<=16)(j:Nat):((dL X).getD j []).length<=16:=by
 rw[List.getD_eq_getElem?_getD]
 by_cases hj:j<(dL X).length
 ·rw[List.getElem?_eq_getElem hj]
  exact h _ (((dL_ok X).2 _).1 (List.getElem_mem hj))
 ·rw[List.getElem?_eq_none (by omega)];exact Nat.zero_le _
end Go.Proofs.YthjnmlpibafbnaaGreat

namespace Go.Proofs.YthjnmlpibafbnaaGreat
open Go.RowKit DM
set_option linter.unusedVariables false
set_option linter.unusedSimpArgs false
noncomputable def tabG (N:Nat)(L:List (Nat->Nat))(i k:Nat):Nat->Nat:=
 @ite _ (k=i) (Nat.decEq _ _) (sameF N) (@dite _ (∃g,Grp N L g/\(∀j,j<i->g j=j)/\g i=k) (Classical.propDecidable _) (λ h=>Classical.choose h) λ _ _=>0)
theorem tellB_iff{N:Nat}{L:List (Nat->Nat)}{i k:Nat}:tellB N L i k=true↔∃g,Grp N L g/\(∀j,j<i->g j=j)/\g i=k:=@decide_eq_true_iff _ (Classical.propDecidable _)
theorem tabG_ok{N:Nat}{L:List (Nat->Nat)}{i k:Nat}(hi:i<N)(h:tellB N L i k=true):Grp N L (tabG N L i k)/\(∀j,j<i->tabG N L i k j=j)/\tabG N L i k i=k:=by
 unfold tabG
 by_cases e:k=i
 ·rw[if_pos e,e]
  exact⟨.one,λ j hj=>one_at (by omega),one_at hi⟩
 ·rw[if_neg e]
  have h:=tellB_iff.1 h
  rw[dif_pos h]
  exact Classical.choose_spec h
theorem tblG{N:Nat}{L:List (Nat->Nat)}(hL:∀g∈L,Np N g):TblOk N (tellB N L) (tabG N L) where
 diag:=λ i hi=>⟨tellB_iff.2 ⟨_,.one,λ j hj=>one_at (by omega),one_at hi⟩,by unfold tabG;rw[if_pos rfl]⟩
 lt:=λ i k hi h=>by
  obtain⟨g,hg,_,e⟩:=tellB_iff.1 h
  rw[<-e];exact(hg.np hL).perm.lt i hi
 np:=λ i k hi h=>(tabG_ok hi h).1.np hL
 fix:=λ i k hi h=>(tabG_ok hi h).2.1
 at_:=λ i k hi h=>(tabG_ok hi h).2.2
theorem allG{N:Nat}(hN:N<=16){L:List (Nat->Nat)}(hL:∀g∈L,Np N g):∀d,d<=N->∀g,Grp N L g->(∀j,j<N-d->g j=j)->InT N (tellB N L) (tabG N L) d g
 |0,_,g,hg,hf=>by
  show g=sameF N
  exact np_ext (hg.np hL) (one_np N) λ i hi=>by rw[hf i (by omega),one_at hi]
 |d+1,hd,g,hg,hf=>by
  have hi:N-(d+1)<N:=by omega
  have hh:tellB N L (N-(d+1)) (g (N-(d+1)))=true:=tellB_iff.2 ⟨g,hg,hf,rfl⟩
  obtain⟨h1,h2⟩:=left_fix hN (tblG hL) hi (hg.np hL) hf hh
  refine(InT.peel hN (tblG hL) hd).2 ⟨hg.np hL,hh,allG hN hL d (by omega) _ (hg.comp hL ((tabG_ok hi hh).1.inv hN hL)) λ j hj=>h2 j (by omega)⟩
theorem elG_ok{N:Nat}(hN:N<=16){L:List (Nat->Nat)}(hL:∀g∈L,Np N g):ElOk N L (elG N L)/\(elG N L).length<=ordG N L:=by
 have hT:=tblG (N:=N) hL
 have hE:ElOk N L (elsE N (tellB N L) (tabG N L) N):=els_ok hN hL hT λ g hg=>⟨λ h=>InT.grp hT hL (λ i k hi h=>(tabG_ok hi h).1) (Nat.le_refl _) h,λ h=>allG hN hL N (Nat.le_refl _) g h λ j hj=>absurd hj (by omega)⟩
 have hp:=hE.perm
 refine⟨⟨hp.nodup_iff.1 hE.nodup,λ r=>by rw[<-hp.mem_iff];exact hE.mem r⟩,?_⟩
 rw[<-hp.length_eq]
 have:=els_le hN hT (Nat.le_refl N)
 rw[hT.ord16 hN] at this
 exact this
theorem etD_le{N:Nat}(hN:N<=16){L:List (Nat->Nat)}(hL:∀g∈L,Np N g):(etD N L).length<=ordG N L:=by
 have h1:=dL_len (tyL N (elG N L))
 rw[tyL_len] at h1
 exact Nat.le_trans h1 (elG_ok hN hL).2
theorem etD_small{N:Nat}(hN:N<=16){L:List (Nat->Nat)}(hL:∀g∈L,Np N g)(j:Nat):((etD N L).getD j []).length<=16:=
 dL_small (tyL_small hN λ p hp=>(((elG_ok hN hL).1.mem p).1 hp).np hL) j
theorem etC_len(N:Nat)(L:List (Nat->Nat)):(etC N L).length=(etD N L).length:=cnX_len _ _
end Go.Proofs.YthjnmlpibafbnaaGreat

namespace Go.Proofs.YthjnmlpibafbnaaGreat
open Go.RowKit DM
set_option linter.unusedVariables false
theorem elG_len{N:Nat}(hN:N<=16){L:List (Nat->Nat)}(hL:∀g∈L,Np N g):(elG N L).length=ordG N L:=by
 have hT:=tblG (N:=N) hL
 have hE:ElOk N L (elsE N (tellB N L) (tabG N L) N):=els_ok hN hL hT λ g hg=>⟨λ h=>InT.grp hT hL (λ i k hi h=>(tabG_ok hi h).1) (Nat.le_refl _) h,λ h=>allG hN hL N (Nat.le_refl _) g h λ j hj=>absurd hj (by omega)⟩
 rw[<-hE.perm.length_eq]
 have h1:=els_len hN (has:=tellB N L) (tabG N L) N (Nat.le_refl _)
 rw[Nat.sub_self] at h1
 have h2:ordF 16 (tellB N L) 0=1:=rfl
 rw[h2,Nat.mul_one,hT.ord16 hN] at h1
 exact h1
section
variable {N:Nat}{b w:Nat->Nat}
theorem two_np(hb:Np N b)(hw:Np N w):∀g∈[b,w],Np N g:=λ g hg=>by
 rcases List.mem_cons.1 hg with rfl|hg
 ·exact hb
 ·rw[List.mem_singleton.1 hg];exact hw
theorem grp_trans(hD:Des N b w){x:Nat}(hx:x<N):∃g,Grp N [b,w] g/\g 0=x:=
 des_all hD hD.pos (S:=λ x=>∃g,Grp N [b,w] g/\g 0=x) ⟨_,.one,one_at hD.pos⟩ (λ z hz ⟨g,h1,h2⟩=>⟨⟨mulF N g b,.mul h1 (List.mem_cons_self ..),by rw[mul_at hD.pos,h2]⟩,⟨mulF N g w,.mul h1 (List.mem_cons_of_mem _ (List.mem_singleton.2 rfl)),by rw[mul_at hD.pos,h2]⟩⟩) hx
theorem grp_comm(hb:Np N b)(hw:Np N w){f:Nat->Nat}(hf:Eqv N b w b w f)(hl:∀x,x<N->f x<N){g:Nat->Nat}(hg:Grp N [b,w] g):∀x,x<N->f (g x)=g (f x):=by
 induction hg with
 |one=>intro x hx;rw[one_at hx,one_at (hl x hx)]
 |@mul p q hp hq ih=>
  intro x hx
  have hpx:=(hp.np (two_np hb hw)).perm.lt x hx
  rw[mul_at hx,mul_at (hl x hx), <-ih x hx]
  rcases List.mem_cons.1 hq with rfl|hq
  ·exact(hf _ hpx).1
  ·rw[List.mem_singleton.1 hq];exact(hf _ hpx).2
theorem nodup_map_inj{E:List (Nat->Nat)}{F:(Nat->Nat)->Nat}(hE:E.Nodup)(h:∀g∈E,∀k∈E,F g=F k->g=k):(E.map F).Nodup:=by
 unfold List.Nodup
 rw[List.pairwise_map]
 exact List.Pairwise.imp_of_mem (λ hg hk hne e=>hne (h _ hg _ hk e)) hE
theorem map_inj_of_onto[DecidableEq (Nat->Nat)]{E:List (Nat->Nat)}{F:(Nat->Nat)->Nat}{n:Nat}(hE:E.Nodup)(hl:E.length=n)(ho:∀x,x<n->∃g∈E,F g=x):∀g∈E,∀k∈E,F g=F k->g=k:=by
 intro g hg k hk e
 refine Classical.byContradiction λ hne=>?_
 have h1:((E.erase k).map F).length=n-1:=by rw[List.length_map,List.length_erase_of_mem hk,hl]
 have h2:=nodup_sub (List.range n) ((E.erase k).map F) List.nodup_range λ x hx=>by
  obtain⟨u,hu,rfl⟩:=ho x (List.mem_range.1 hx)
  by_cases eu:u=k
  ·subst eu
   rw[<-e]
   exact List.mem_map.2 ⟨g,(List.mem_erase_of_ne hne).2 hg,rfl⟩
  ·exact List.mem_map.2 ⟨u,(List.mem_erase_of_ne eu).2 hu,rfl⟩
 rw[List.length_range,h1] at h2
 have:0<E.length:=List.length_pos_of_mem hk
 omega
theorem regular_iff(hD:Des N b w)(hb:Np N b)(hw:Np N w):(isoL N b w b w N).length=N↔ordG N [b,w]=N:=by
 have hN:=hD.le
 have hL:=two_np hb hw
 have hE:=(elG_ok hN hL).1
 have hlen:=elG_len hN hL
 rw[<-hlen]
 constructor
 ·intro h
  have hall:∀y,y<N->isoB N b w b w y=true:=λ y hy=>by
   rw[isoL_count] at h
   have:=List.length_filter_eq_length_iff.1 (h.trans List.length_range.symm)
   exact this y (List.mem_range.2 hy)
  have hinj:∀g∈elG N [b,w],∀k∈elG N [b,w],g 0=k 0->g=k:=λ g hg k hk e=>by
   have h1:=(hE.mem g).1 hg
   have h2:=(hE.mem k).1 hk
   refine np_ext (h1.np hL) (h2.np hL) λ y hy=>?_
   obtain⟨a1,a2,a3,_⟩:=iso_of hD hD hy (hall y hy)
   have c1:=grp_comm hb hw a3 a1.lt h1 0 hD.pos
   have c2:=grp_comm hb hw a3 a1.lt h2 0 hD.pos
   rw[a2] at c1 c2
   rw[<-c1, <-c2,e]
  have hnd:=nodup_map_inj (F:=λ g=>g 0) hE.nodup hinj
  have l1:=nodup_sub _ (List.range N) hnd λ x hx=>by
   obtain⟨g,hg,rfl⟩:=List.mem_map.1 hx
   exact List.mem_range.2 ((((hE.mem g).1 hg).np hL).perm.lt 0 hD.pos)
  have l2:=nodup_sub (List.range N) ((elG N [b,w]).map λ g=>g 0) List.nodup_range λ x hx=>by
   obtain⟨g,hg,e⟩:=grp_trans hD (List.mem_range.1 hx)
   exact List.mem_map.2 ⟨g,(hE.mem g).2 hg,e⟩
  rw[List.length_map,List.length_range] at l1 l2
  omega
 ·intro h
  classical
  have hinj:=map_inj_of_onto (F:=λ g=>g 0) hE.nodup h λ x hx=>by
   obtain⟨g,hg,e⟩:=grp_trans hD hx
   exact⟨g,(hE.mem g).2 hg,e⟩
  have hG:∀x,x<N->∃g,Grp N [b,w] g/\g 0=x:=λ x hx=>grp_trans hD hx
  let G:Nat->Nat->Nat:=λ x=>if hx:x<N then Classical.choose (hG x hx) else λ _=>0
  have hG1:∀x,x<N->Grp N [b,w] (G x)/\G x 0=x:=λ x hx=>by
   show Grp N [b,w] (if hx:x<N then Classical.choose (hG x hx) else λ _=>0)/\(if hx:x<N then Classical.choose (hG x hx) else λ _=>0) 0=x
   rw[dif_pos hx];exact Classical.choose_spec (hG x hx)
  have uniq:∀x g,x<N->Grp N [b,w] g->g 0=x->g=G x:=λ x g hx hg e=>hinj g ((hE.mem g).2 hg) _ ((hE.mem _).2 (hG1 x hx).1) (e.trans (hG1 x hx).2.symm)
  have hall:∀y,y<N->isoB N b w b w y=true:=λ y hy=>by
   refine iso_true hD hD hy (f:=λ x=>G x y) ?_ λ x hx=>?_
   ·show G 0 y=y
    rw[<-uniq 0 _ hD.pos .one (one_at hD.pos)];exact one_at hy
   ·have g1:=hG1 x hx
    refine⟨?_,?_⟩
    ·show G (b x) y=b (G x y)
     rw[<-uniq (b x) _ (hD.pb.lt x hx) (.mul g1.1 (by simp:b∈[b,w])) (by rw[mul_at hD.pos,g1.2]),mul_at hy]
    ·show G (w x) y=w (G x y)
     rw[<-uniq (w x) _ (hD.pw.lt x hx) (.mul g1.1 (by simp:w∈[b,w])) (by rw[mul_at hD.pos,g1.2]),mul_at hy]
  rw[isoL_count]
  refine(List.length_filter_eq_length_iff.2 λ y hy=>hall y (List.mem_range.1 hy)).trans List.length_range
end
end Go.Proofs.YthjnmlpibafbnaaGreat

namespace Go.Proofs.YthjnmlpibafbnaaGreat
open Go.RowKit DM
set_option linter.unusedVariables false
def lcmTo(l:List Nat):Nat->Nat
 |0=>1
 |i+1=>lcmTo l i / Nat.gcd (lcmTo l i) (l.getD i 0)*l.getD i 0
theorem lcmTo_dvd{l:List Nat}(h:∀x∈l,1<=x/\x<=16):∀i,i<=l.length->lcmTo l i∣720720/\0<lcmTo l i
 |0,_=>⟨Nat.one_dvd _,Nat.one_pos⟩
 |i+1,hi=>by
  obtain⟨h1,h2⟩:=lcmTo_dvd h i (by omega)
  have hx:=h (l.getD i 0) (by rw[List.getD_eq_getElem?_getD,List.getElem?_eq_getElem (by omega)];exact List.getElem_mem _)
  simp only[lcmTo]
  generalize l.getD i 0=x at*
  generalize lcmTo l i=a at*
  have hg:=Nat.gcd_dvd_left a x
  have e:a / Nat.gcd a x*x=Nat.lcm a x:=by
   unfold Nat.lcm
   rw[Nat.mul_comm, <-Nat.mul_div_assoc _ hg,Nat.mul_comm]
  rw[e]
  refine⟨Nat.lcm_dvd h1 ?_,Nat.lcm_pos h2 (by omega)⟩
  have:x=1\/x=2\/x=3\/x=4\/x=5\/x=6\/x=7\/x=8\/x=9\/x=10\/x=11\/x=12\/x=13\/x=14\/x=15\/x=16:=by omega
  rcases this with rfl|rfl|rfl|rfl|rfl|rfl|rfl|rfl|rfl|rfl|rfl|rfl|rfl|rfl|rfl|rfl<;>exact Nat.dvd_of_mod_eq_zero (by decide)
theorem lcmTo_le{l:List Nat}(h:∀x∈l,1<=x/\x<=16){i:Nat}(hi:i<=l.length):0<lcmTo l i/\lcmTo l i<=720720:=by
 obtain⟨h1,h2⟩:=lcmTo_dvd h i hi
 exact⟨h2,Nat.le_of_dvd (by omega) h1⟩
end Go.Proofs.YthjnmlpibafbnaaGreat

namespace Go.Proofs.YthjnmlpibafbnaaGreat
open Go.RowKit DM
set_option linter.unusedVariables false
abbrev Cyc(n:Nat)(p:Nat->Nat)(L:List (List Nat))(M:Nat->Bool):Prop:=OInv n p n L M
theorem cyc_of{n:Nat}(hn:n<=16){p:Nat->Nat}(hp:Perm n p):Cyc n p (cycs p n) (cyTo p n).2:=cyTo_inv hn hp n (Nat.le_refl _)
section
variable {n:Nat}{p:Nat->Nat}{L:List (List Nat)}{M:Nat->Bool}
theorem OInv.close(hp:Perm n p)(h:Cyc n p L M){j:Nat}(hj:j<L.length):p ((L.getD j []).getD ((L.getD j []).length-1) 0)=(L.getD j []).getD 0 0:=by
 have hpos:=h.pos j hj
 have hl:=getD_mem (l:=L.getD j []) (t:=(L.getD j []).length-1) (by omega)
 obtain⟨s,hs,e⟩:=mem_getD (h.fwd j _ hl)
 rcases s with _|s
 ·exact e.symm
 ·exfalso
  have h1:=h.chain j s hs
  rw[e] at h1
  have h2:=hp.inj _ _ (h.lt j _ hl) (h.lt j _ (getD_mem (by omega))) h1
  have:=nodup_getD (h.nodup j) (by omega) (by omega) h2
  omega
theorem OInv.next(hp:Perm n p)(h:Cyc n p L M){j k:Nat}(hj:j<L.length)(hk:k<(L.getD j []).length):(L.getD j []).getD ((k+1) % (L.getD j []).length) 0=p ((L.getD j []).getD k 0):=by
 by_cases e:k+1<(L.getD j []).length
 ·rw[Nat.mod_eq_of_lt e];exact h.chain j k e
 ·have e2:k+1=(L.getD j []).length:=by omega
  rw[e2,Nat.mod_self,show k=(L.getD j []).length-1 by omega]
  exact(h.close hp hj).symm
theorem cls_mem(h:Cyc n p L M){x:Nat}(hx:x<n):clsF L x<L.length/\x∈L.getD (clsF L x) []:=by
 obtain⟨j,hj,hm⟩:=(h.met x).1 (h.all x hx)
 rw[cls_of h.uniq hm]
 exact⟨hj,hm⟩
def lnF(L:List (List Nat))(x:Nat):Nat:=(L.getD (clsF L x) []).length
theorem ty_perm(hn:n<=16)(hp:Perm n p):(tyN (cycs p n) n).Perm ((cycs p n).map List.length):=by
 rw[<-ty_eq (cycs_lens hn hp)]
 exact(List.reverse_perm _).trans (List.mergeSort_perm _ _)
theorem ty_mem(hn:n<=16)(hp:Perm n p){x:Nat}(hx:x∈tyN (cycs p n) n):1<=x/\x<=n:=by
 obtain⟨l,hl,rfl⟩:=List.mem_map.1 ((ty_perm hn hp).mem_iff.1 hx)
 exact cycs_lens hn hp l hl
end
theorem dvd_lcmTo{l:List Nat}(h:∀x∈l,1<=x/\x<=16):∀i,i<=l.length->∀j,j<i->l.getD j 0∣lcmTo l i
 |0,_,j,hj=>absurd hj (Nat.not_lt_zero _)
 |i+1,hi,j,hj=>by
  have e:lcmTo l (i+1)=Nat.lcm (lcmTo l i) (l.getD i 0):=by
   simp only[lcmTo]
   have hg:=Nat.gcd_dvd_left (lcmTo l i) (l.getD i 0)
   unfold Nat.lcm
   rw[Nat.mul_comm, <-Nat.mul_div_assoc _ hg,Nat.mul_comm]
  rw[e]
  by_cases c:j<i
  ·exact Nat.dvd_trans (dvd_lcmTo h i (by omega) j c) (Nat.dvd_lcm_left _ _)
  ·rw[show j=i by omega];exact Nat.dvd_lcm_right _ _
end Go.Proofs.YthjnmlpibafbnaaGreat
