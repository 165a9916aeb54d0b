import Derived.Test.YthjnmlpibafbnaaGreatX8
import Derived.Test.YthjnmlpibafbnaaGreatX3
import Derived.Test.YthjnmlpibafbnaaGreatD18
import Derived.Test.YthjnmlpibafbnaaGreatD34
import Derived.Test.YthjnmlpibafbnaaGreatD31
namespace Go.Proofs.YthjnmlpibafbnaaGreat
open Go.RowKit DM
set_option linter.unusedSimpArgs false
set_option linter.unusedVariables false
set_option maxRecDepth 100000
set_option maxHeartbeats 1000000
noncomputable def desB (n:Int)(b w:Nat->Nat):Bool:=permB b n&&(permB w n&&decide (((bfs b w).length:Int)=n))
structure Des(N:Nat)(b w:Nat->Nat):Prop where
 pos:1<=N
 le:N<=16
 pb:Perm N b
 pw:Perm N w
 all:(bfs b w).length=N
theorem des_of_B{n:Int}{b w:Nat->Nat}(h:desB n b w=true):∃N:Nat,n=N/\Des N b w:=by
 unfold desB at h
 simp only[Bool.and_eq_true,decide_eq_true_eq] at h
 obtain⟨N,rfl,h1,h2,h3⟩:=perm_of_B h.1
 obtain⟨N',e,_,_,h3'⟩:=perm_of_B h.2.1
 have:N'=N:=by omega
 subst this
 exact⟨N',rfl,h1,h2,h3,h3',by have:=h.2.2;omega⟩
theorem l01Is_fn(n:Int)(b w:Nat->Nat)(hb:∀i,b i<256)(hw:∀i,w i<256):FnP Tryz.prog 34 [ds_ n b w] (.b (desB n b w)):=by
 refine FnS.into T tok Tryz.func34 (by rfl) rfl rfl rfl (by simp) ?_
 refine rS ?_
 cases h1:permB b n
 ·have e:desB n b w=false:=by unfold desB;rw[h1];rfl
  refine WP.rw ?_
  refine rU 4 ?_
  refine cA (h1▸l01Perm_fn b hb n) ?_
  refine rF ?_
  rw[e]
  exact WP.ret (Ends.val (by rfl) (by exact byObl) (by rfl) (by trivial))
 cases h2:permB w n
 ·have e:desB n b w=false:=by unfold desB;rw[h1,h2];rfl
  refine WP.rw ?_
  refine rU 4 ?_
  refine cA (h1▸l01Perm_fn b hb n) ?_
  refine rU 5 ?_
  refine cA (h2▸l01Perm_fn w hw n) ?_
  refine rF ?_
  rw[e]
  exact WP.ret (Ends.val (by rfl) (by exact byObl) (by rfl) (by trivial))
 have e:desB n b w=decide (((bfs b w).length:Int)=n):=by unfold desB;rw[h1,h2];rfl
 obtain⟨N,rfl,g1,g2,hP⟩:=perm_of_B h1
 obtain⟨N',eN,_,_,hP'⟩:=perm_of_B h2
 obtain rfl:N=N':=by omega
 refine WP.rw ?_
 refine rU 4 ?_
 refine cA (h1▸l01Perm_fn b hb N) ?_
 refine rU 5 ?_
 refine cA (h2▸l01Perm_fn w hw N) ?_
 refine rU 8 ?_
 refine cA (l01Connected_fn b w N g1 g2 hP.lt hP'.lt) ?_
 refine rF ?_
 rw[e]
 exact WP.ret (Ends.val (by rfl) (by exact byObl) (by rfl) (by trivial))
theorem implIsDessin_fn(n:Int)(b w:Nat->Nat)(hb:∀i,b i<256)(hw:∀i,w i<256):FnP Tryz.prog 10 [ds_ n b w] (.b (desB n b w)):=by
 refine FnS.into T tok Tryz.func10 (by rfl) rfl rfl rfl (by simp) ?_
 refine rS ?_
 refine rS ?_
 cases h1:permB b n
 ·have e:desB n b w=false:=by unfold desB;rw[h1];rfl
  refine WP.rw ?_
  refine rU 3 ?_
  refine cA (h1▸IsPermutation_fn b hb n) ?_
  refine rF ?_
  rw[e]
  exact WP.ret (Ends.val (by rfl) (by exact byObl) (by rfl) (by trivial))
 cases h2:permB w n
 ·have e:desB n b w=false:=by unfold desB;rw[h1,h2];rfl
  refine WP.rw ?_
  refine rU 3 ?_
  refine cA (h1▸IsPermutation_fn b hb n) ?_
  refine rU 4 ?_
  refine cA (h2▸IsPermutation_fn w hw n) ?_
  refine rF ?_
  rw[e]
  exact WP.ret (Ends.val (by rfl) (by exact byObl) (by rfl) (by trivial))
 have e:desB n b w=decide (((bfs b w).length:Int)=n):=by unfold desB;rw[h1,h2];rfl
 obtain⟨N,rfl,g1,g2,hP⟩:=perm_of_B h1
 obtain⟨N',eN,_,_,hP'⟩:=perm_of_B h2
 obtain rfl:N=N':=by omega
 refine WP.rw ?_
 refine rU 3 ?_
 refine cA (h1▸IsPermutation_fn b hb N) ?_
 refine rU 4 ?_
 refine cA (h2▸IsPermutation_fn w hw N) ?_
 refine rU 8 ?_
 refine cR [1] (reached_fn b w N g1 g2 hP.lt hP'.lt) (LeAll.cons (by rfl) (by first|with_reducible exact Root.Le.refl _|with_reducible exact le_dead|(exact le_frz (Nat.le_refl _) (λ j hj=>by rcases j with _|_|j<;>first|rfl|omega))|exact byLeq) (by exact byCon) (leZ)) ?_
 refine rF ?_
 rw[e]
 exact WP.ret (Ends.val (by rfl) (by exact byObl) (by rfl) (by trivial))
theorem bt_star{n:Nat}(h1:1<=n)(hn:n<=16):Bt n (fillF (λ i=>(i+1) % n) n):=⟨λ i=>by
 show(if i<n then(i+1) % n else 0)<n
 split
 ·exact Nat.mod_lt _ (by omega)
 ·omega,λ i hi=>by
 show(if i<n then(i+1) % n else 0)=0
 rw[if_neg (by omega)]⟩
theorem Bt.b256{n:Nat}{p:Nat->Nat}(h:Bt n p)(hn:n<=256):∀i,p i<256:=λ i=>Nat.lt_of_lt_of_le (h.lt i) hn
theorem l01Draw_fn(len:Nat)(g:Nat->Nat)(hg:∀j,g j<256)(a:Nat)(h:Int)(most:Int)(hm1:1<=most)(hm:most<=16)(ha:a<=len)(hl:len<=4294967296):
  FnS Tryz.prog 94 [.p 0 [] 0,.i .i64 most] [.var (srcD len g a h)] λ r m'=>∃(n:Nat) (b w:Nat->Nat) (a':Nat) (h':Int),r=ds_ n b w/\1<=n/\(n:Int)<=most/\Bt n b/\Bt n w/\a'<=len/\m'=[.var (srcD len g a' h')]:=by
 have hSc:∀(k a:Nat) (h:Int),Sc k (srcD len g a h):=λ k a h=>sc_src k len g a h
 have sc_ch:=hSc
 have hnx:=l01Next_fn len g hg a h most ha hl
 refine FnS.intoE T tok Tryz.func94 (by rfl) rfl rfl rfl (by simp) ?_
 refine rS ?_
 refine WP.rw ?_
 refine rU 2 ?_
 refine WPL.callE [0] (hnx) (leC leZ) (by rfl) (by rfl) (by exact byArgs) (by rfl) (by rfl) (by simp[Sc,sc_pl,sc_ds]) ?_
 rintro _ _ ⟨y,a',h2,rfl,hy1,_,ha',rfl⟩
 obtain⟨y0,y1⟩:=hy1 hm1
 obtain⟨n,rfl,hn1,hn2⟩:∃n:Nat,y=(n:Int)-1/\1<=n/\(n:Int)<=most:=⟨(y+1).toNat,by omega,by omega,by omega⟩
 have hn16:n<=16:=by omega
 refine⟨⟨λ d hd=>by cases hd;exact sc_src _ _ _ _ _,trivial⟩,.i .i64 ((n:Int)-1),⟨rfl,trivial⟩,trivial,?_⟩
 refine WPL.mem (by rfl) ?_
 refine rU 1 ?_
 have en:(1:Int)+((n:Int)-1)=n:=by omega
 rw[en]
 refine rF ?_
 refine WP.seq ?_
 refine rS ?_
 refine WP.block ?_
 refine WP.loopH (⟨λ z:Nat×Nat×Int=>z.1<=8/\z.2.1<=len,λ z=>[(0,.p 0 [] 0),(4,.p 1 [] 0),(5,.i .i64 (n:Int)),(6,.i .i64 (z.1:Int))],λ z=>[.var (srcD len g z.2.1 z.2.2),.var (ds_ 0 (λ _=>0) (λ _=>0))],λ z=>8-z.1⟩) ((0,a',h2)) (⟨Nat.zero_le _,ha'⟩) (gC [0,1] (leC (leC leZ))) ?_
 rintro⟨k,c,h3⟩ ⟨hk,hcl⟩
 dsimp only at hk hcl
 dsimp only[Hd.at]
 refine WP.seq ?_
 refine rS ?_
 refine cI (λ hc=>?_) λ hc=>?_
 ·have hk:k<8:=by have:=of_decide_eq_true hc;omega
  clear hc
  let F1:Nat->Int:=λ j=>if j=0 then 2 else if j=1 then 3 else if j=2 then 4 else(n:Int)
  let F2:Nat->Int:=λ j=>if j=0 then 2 else if j=1 then 2 else if j=2 then 3 else(n:Int)
  have hF1:∀j,F1 j<=1000:=λ j=>by
   show(if j=0 then(2:Int) else if j=1 then 3 else if j=2 then 4 else(n:Int))<=1000
   split
   ·omega
   ·split
    ·omega
    ·split<;>omega
  have hF2:∀j,F2 j<=1000:=λ j=>by
   show(if j=0 then(2:Int) else if j=1 then 2 else if j=2 then 3 else(n:Int))<=1000
   split
   ·omega
   ·split
    ·omega
    ·split<;>omega
  have hp1:=l01Pick_fn len g hg c h3 4 F1 (by omega) (by omega) hcl hl
  refine WP.seq (WP.block ?_)
  refine WP.rw ?_
  refine rU 6 ?_
  refine WPL.callE [0,2] (hp1) (by repeat (first|exact trivial|(refine lC ?_ ?_;first|exact byLz|(exact le_row (Nat.le_refl _) (λ j hj=>by obtain rfl|rfl|rfl|rfl:j=0\/j=1\/j=2\/j=3:=(by omega)<;>rfl))|exact byLeq))) (by rfl) (by rfl) (by exact byArgs) (by rfl) (by rfl) (by simp[Sc,sc_pl,sc_ds]) ?_
  rintro _ _ ⟨j1,c1,g1,rfl,hj1,hc1,rfl⟩
  refine⟨⟨λ d hd=>by cases hd;exact sc_src _ _ _ _ _,λ d hd=>by cases hd;exact λ _ _=>trivial,trivial⟩,.i .i64 (F1 j1),⟨rfl,trivial⟩,trivial,?_⟩
  refine WPL.mem (by rfl) ?_
  have hp2:=l01Pairs_fn len g hg c1 g1 n (F1 j1) hn1 hn16 (hF1 _) hc1 hl
  refine WPL.callE [0] (hp2) (leC leZ) (by rfl) (by rfl) (by exact byArgs) (by rfl) (by rfl) (by simp[Sc,sc_pl,sc_ds]) ?_
  rintro _ _ ⟨b,c2,g2,rfl,hb,hc2,rfl⟩
  refine⟨⟨λ d hd=>by cases hd;exact sc_src _ _ _ _ _,trivial⟩,pl b,⟨rfl,sc_pl _ _⟩,sc_pl _ _,?_⟩
  refine WPL.mem (by rfl) ?_
  have hp3:=l01Pick_fn len g hg c2 g2 4 F2 (by omega) (by omega) hc2 hl
  refine rU 5 ?_
  refine WPL.callE [0,3] (hp3) (by repeat (first|exact trivial|(refine lC ?_ ?_;first|exact byLz|(exact le_row (Nat.le_refl _) (λ j hj=>by obtain rfl|rfl|rfl|rfl:j=0\/j=1\/j=2\/j=3:=(by omega)<;>rfl))|exact byLeq))) (by rfl) (by rfl) (by exact byArgs) (by rfl) (by rfl) (by simp[Sc,sc_pl,sc_ds]) ?_
  rintro _ _ ⟨j3,c3,g3,rfl,hj3,hc3,rfl⟩
  refine⟨⟨λ d hd=>by cases hd;exact sc_src _ _ _ _ _,λ d hd=>by cases hd;exact λ _ _=>trivial,trivial⟩,.i .i64 (F2 j3),⟨rfl,trivial⟩,trivial,?_⟩
  refine WPL.mem (by rfl) ?_
  have hp4:=l01Pairs_fn len g hg c3 g3 n (F2 j3) hn1 hn16 (hF2 _) hc3 hl
  refine WPL.callE [0] (hp4) (leC leZ) (by rfl) (by rfl) (by exact byArgs) (by rfl) (by rfl) (by simp[Sc,sc_pl,sc_ds]) ?_
  rintro _ _ ⟨w,c4,g4,rfl,hw,hc4,rfl⟩
  refine⟨⟨λ d hd=>by cases hd;exact sc_src _ _ _ _ _,trivial⟩,pl w,⟨rfl,sc_pl _ _⟩,sc_pl _ _,?_⟩
  refine WPL.mem (by rfl) ?_
  refine rF ?_
  refine WP.ghost (gC [0,1,4] (leC (leC (leC leZ))) (l:=[(0,.p 0 [] 0),(4,.p 1 [] 0),(5,.i .i64 (n:Int)),(6,.i .i64 (k:Int)),(7,.p 2 [] 0)]) (m':=[.var (srcD len g c4 g4),.var (ds_ 0 (λ _=>0) (λ _=>0)),.var (ds_ n b w)])) ?_
  have his:=l01Is_fn n b w (hb.b256 (by omega)) (hw.b256 (by omega))
  refine WP.rw ?_
  refine rU 1 ?_
  refine cA (his) ?_
  refine rF ?_
  refine cQ (λ hx=>?_) λ hx=>?_
  ·refine rS ?_
   exact WP.ret (Ends.newE [0] (⟨n,b,w,c4,g4,rfl,hn1,hn2,hb,hw,hc4,rfl⟩) (.inl rfl) (by rfl) (by exact byObl) (leC leZ) rfl rfl (⟨rfl,sc_ds _ _ _ _⟩) (sc_ds _ _ _ _))
  ·refine WP.skip ?_
   refine rE ?_
   refine Again.next ((k+1,c4,g4)) (gC [0,1] (leC (leC leZ))) (⟨by omega,hc4⟩) (by dsimp only;omega)
 clear hc
 refine WP.rw ?_
 refine rU 1 ?_
 refine cA (l01Star_fn n hn1 hn16) ?_
 refine rF ?_
 have hdp:=l01DrawPlaces_fn len g hg c h3 (n:Int) (by omega) (by omega) hcl hl
 refine WP.rw ?_
 refine rU 2 ?_
 refine WPL.callE [0] (hdp) (leC leZ) (by rfl) (by rfl) (by exact byArgs) (by rfl) (by rfl) (by simp[Sc,sc_pl,sc_ds]) ?_
 rintro _ _ ⟨w,c',h4,rfl,hw,hc',rfl⟩
 rw[bN_nat hn1] at hw
 refine⟨⟨λ d hd=>by cases hd;exact sc_src _ _ _ _ _,trivial⟩,pl w,⟨rfl,sc_pl _ _⟩,sc_pl _ _,?_⟩
 refine WPL.mem (by rfl) ?_
 refine rF ?_
 refine WP.ghost (gC [0,1,2] (leC (leC (leC leZ))) (l:=[(0,.p 0 [] 0),(4,.p 1 [] 0),(8,.p 2 [] 0)]) (m':=[.var (srcD len g c' h4),.var (ds_ 0 (λ _=>0) (λ _=>0)),.var (ds_ n (fillF (λ i=>(i+1) % n) n) w)])) ?_
 refine rS ?_
 exact WP.ret (Ends.newE [0] (⟨n,_,w,c',h4,rfl,hn1,hn2,bt_star hn1 hn16,hw,hc',rfl⟩) (.inl rfl) (by rfl) (by exact byObl) (leC leZ) rfl rfl (⟨rfl,sc_ds _ _ _ _⟩) (sc_ds _ _ _ _))
end Go.Proofs.YthjnmlpibafbnaaGreat

namespace Go.Proofs.YthjnmlpibafbnaaGreat
open Go.RowKit DM
def numsF(l:List Nat)(j:Nat):Dat:=.i .i64 ((l.getD j 0:Nat):Int)
def owN(l:List Nat):Dat:=.ow 2 l.length 1 (numsF l)
def rowsF(L:List (List Nat))(i:Nat):Dat:=owN (L.getD i [])
theorem getD_snoc_lt{α:Type}(l:List α)(y d:α){j:Nat}(h:j<l.length):(l++[y]).getD j d=l.getD j d:=by
 simp only[List.getD_eq_getElem?_getD];rw[List.getElem?_append_left h]
theorem getD_snoc{α:Type}(l:List α)(y d:α):(l++[y]).getD l.length d=y:=by
 simp[List.getD_eq_getElem?_getD]
theorem blt_true{a b:Nat}(h:a<b):Nat.blt a b=true:=by rw[Nat.blt_eq];exact h
theorem blt_false{a b:Nat}(h:¬a<b):Nat.blt a b=false:=by cases e:Nat.blt a b with|false=>rfl|true=>rw[Nat.blt_eq] at e;exact absurd e h
theorem ap_nums(l:List Nat)(y:Nat)(z:Dat)(j:Nat)(hj:j<l.length+1):numsF (l++[y]) j=apF l.length (numsF l) 0 (fup (λ _=>z) 0 (.i .i64 ((y:Nat):Int))) j:=by
 unfold apF numsF
 by_cases h:j<l.length
 ·rw[blt_true h,getD_snoc_lt l y 0 h];rfl
 ·have e:j=l.length:=by omega
  subst e
  rw[blt_false (Nat.lt_irrefl _),getD_snoc]
  simp[fup]
theorem ap_rows(L:List (List Nat))(l:List Nat)(g:Nat->Dat)(j:Nat)(hj:j<L.length+1):rowsF (L++[l]) j=fup (apF L.length (rowsF L) 0 g) L.length (owN l) j:=by
 unfold apF rowsF
 by_cases h:j<L.length
 ·rw[fup_ne _ _ (by omega),blt_true h,getD_snoc_lt L l [] h];rfl
 ·have e:j=L.length:=by omega
  subst e
  rw[fup_same,getD_snoc]
def cyRun(p:Nat->Nat):Nat->Nat->List Nat->(Nat->Bool)->List Nat×(Nat->Bool)
 |0,_,l,met=>(l,met)
 |f+1,k,l,met=>bif met k then(l,met) else cyRun p f (p k) (l++[k]) (up met k true)
def cyc(p:Nat->Nat)(k:Nat)(l:List Nat)(met:Nat->Bool):List Nat×(Nat->Bool):=cyRun p (cntU 16 met) k l met
theorem cyc_old{p:Nat->Nat}{k:Nat}{l:List Nat}{met:Nat->Bool}(h:met k=true):cyc p k l met=(l,met):=by
 unfold cyc
 cases cntU 16 met with
 |zero=>rfl
 |succ n=>simp only[cyRun,h,cond_true]
theorem cyc_new{p:Nat->Nat}{k:Nat}{l:List Nat}{met:Nat->Bool}(hk:k<16)(h:met k=false):cyc p k l met=cyc p (p k) (l++[k]) (up met k true):=by
 unfold cyc
 rw[cntU_up hk h]
 simp only[cyRun,h,cond_false]
theorem cyRun_mono(p:Nat->Nat):∀(f k:Nat) (l:List Nat) (met:Nat->Bool),l.length<=(cyRun p f k l met).1.length
 |0,k,l,met=>Nat.le_refl _
 |f+1,k,l,met=>by
  simp only[cyRun]
  cases met k
  ·have:=cyRun_mono p f (p k) (l++[k]) (up met k true)
   simp only[List.length_append,List.length_singleton] at this
   simp only[cond_false];omega
  ·simp
theorem cyc_pos{p:Nat->Nat}{k:Nat}{met:Nat->Bool}(hk:k<16)(h:met k=false):1<=(cyc p k [] met).1.length:=by
 rw[cyc_new hk h]
 have:=cyRun_mono p (cntU 16 (up met k true)) (p k) ([]++[k]) (up met k true)
 exact this
structure CInv(n:Nat)(k:Nat)(l:List Nat)(met:Nat->Bool):Prop where
 small:∀x∈l,x<n
 here:k<n
 len:l.length+cntU 16 met<=16
theorem CInv.step{n:Nat}(hn:n<=16){p:Nat->Nat}(hp:∀i,i<n->p i<n){k:Nat}{l:List Nat}{met:Nat->Bool}(h:CInv n k l met)(hm:met k=false):CInv n (p k) (l++[k]) (up met k true):=by
 have hc:=cntU_up (met:=met) (y:=k) (by have:=h.here;omega) hm
 refine⟨λ x hx=>?_,hp _ h.here,?_⟩
 ·simp only[List.mem_append,List.mem_singleton] at hx
  rcases hx with hx|rfl
  ·exact h.small x hx
  ·exact h.here
 ·have:=h.len
  simp only[List.length_append,List.length_singleton];omega
theorem cntU_le:∀(n:Nat) (f:Nat->Bool),cntU n f<=n
 |0,_=>Nat.le_refl _
 |n+1,f=>by
  have:=cntU_le n f
  simp only[cntU]
  cases f n<;>simp<;>omega
def cyTo(p:Nat->Nat):Nat->List (List Nat)×(Nat->Bool)
 |0=>([],λ _=>false)
 |i+1=>bif (cyTo p i).2 i then cyTo p i else((cyTo p i).1++[(cyc p i [] (cyTo p i).2).1],(cyc p i [] (cyTo p i).2).2)
def cycs(p:Nat->Nat)(n:Nat):List (List Nat):=(cyTo p n).1
theorem cyTo_len(p:Nat->Nat):∀i,(cyTo p i).1.length<=i
 |0=>Nat.le_refl _
 |i+1=>by
  have:=cyTo_len p i
  simp only[cyTo]
  cases (cyTo p i).2 i
  ·simp only[cond_false,List.length_append,List.length_singleton];omega
  ·simp only[cond_true];omega
theorem cyTo_old{p:Nat->Nat}{i:Nat}(h:(cyTo p i).2 i=true):cyTo p (i+1)=cyTo p i:=by
 show(bif (cyTo p i).2 i then _ else _)=_
 rw[h];rfl
theorem cyTo_new{p:Nat->Nat}{i:Nat}(h:(cyTo p i).2 i=false):cyTo p (i+1)=((cyTo p i).1++[(cyc p i [] (cyTo p i).2).1],(cyc p i [] (cyTo p i).2).2):=by
 show(bif (cyTo p i).2 i then _ else _)=_
 rw[h];rfl
theorem cyRun_ok{n:Nat}(hn:n<=16){p:Nat->Nat}(hp:∀i,i<n->p i<n):∀(f k:Nat) (l:List Nat) (met:Nat->Bool),CInv n k l met->(∀x∈(cyRun p f k l met).1,x<n)/\(cyRun p f k l met).1.length+cntU 16 (cyRun p f k l met).2<=16
 |0,k,l,met,h=>⟨h.small,h.len⟩
 |f+1,k,l,met,h=>by
  simp only[cyRun]
  cases hm:met k
  ·simp only[cond_false];exact cyRun_ok hn hp f _ _ _ (h.step hn hp hm)
  ·simp only[cond_true];exact⟨h.small,h.len⟩
theorem cyTo_ok{n:Nat}(hn:n<=16){p:Nat->Nat}(hp:∀i,i<n->p i<n):∀i,i<=n->∀l∈(cyTo p i).1,(∀x∈l,x<n)/\l.length<=16
 |0,_,l,hl=>by simp[cyTo] at hl
 |i+1,hi,l,hl=>by
  cases hm:(cyTo p i).2 i
  ·rw[cyTo_new hm] at hl
   simp only[List.mem_append,List.mem_singleton] at hl
   rcases hl with hl|rfl
   ·exact cyTo_ok hn hp i (by omega) l hl
   ·have:=cyRun_ok hn hp (cntU 16 (cyTo p i).2) i [] (cyTo p i).2 ⟨by simp,by omega,by have:=cntU_le 16 (cyTo p i).2;simpa using this⟩
    exact⟨this.1,by have:=this.2;unfold cyc;omega⟩
  ·rw[cyTo_old hm] at hl
   exact cyTo_ok hn hp i (by omega) l hl
theorem cycs_ok{n:Nat}(hn:n<=16){p:Nat->Nat}(hp:∀i,i<n->p i<n){j:Nat}:((cycs p n).getD j []).length<=16/\∀x∈(cycs p n).getD j [],x<n:=by
 by_cases h:j<(cycs p n).length
 ·have:=cyTo_ok hn hp n (Nat.le_refl _) ((cycs p n).getD j []) (by rw[List.getD_eq_getElem?_getD,List.getElem?_eq_getElem h];exact List.getElem_mem h)
  exact⟨this.2,this.1⟩
 ·rw[List.getD_eq_getElem?_getD,List.getElem?_eq_none (by omega)];simp
theorem ren_t2{τ:Nat->Nat}{a b a' b':Dat}(h1:renD τ a a')(h2:renD τ b b'):renD τ (t2 a b) (t2 a' b'):=
 ⟨_,rfl,λ i _=>by cases i with|zero=>exact h1|succ i=>exact h2⟩
end Go.Proofs.YthjnmlpibafbnaaGreat

namespace Go.Proofs.YthjnmlpibafbnaaGreat
open Go.RowKit DM
set_option linter.unusedSimpArgs false
set_option linter.unusedVariables false
set_option maxRecDepth 100000
set_option maxHeartbeats 1000000
theorem l01Cycles_fn(p:Nat->Nat)(n:Nat)(hn:n<=16)(hp:∀i,i<n->p i<n):FnS Tryz.prog 89 [pl p,.i .i64 n] [] (λ r m'=>r=.sl 0 0 (cycs p n).length 1/\m'=[.row 30 (cycs p n).length 1 (rowsF (cycs p n))]):=by
 refine FnS.intoN T tok Tryz.func89 (by rfl) rfl rfl rfl (by simp) ?_
 refine rS ?_
 refine rS ?_
 refine WP.seq ?_
 refine rS ?_
 refine WP.block ?_
 refine WP.loopH (⟨λ x:Nat×List (List Nat)×(Nat->Bool)=>x.1<=n/\x.2=cyTo p x.1,λ x=>[(1,.i .i64 n),(2,.p 0 [] 0),(5,.sl 2 0 x.2.1.length 1),(6,.p 1 [] 0),(7,.i .i64 (x.1:Int))],λ x=>[.var (pl p),.var (bl x.2.2),.row 30 x.2.1.length 1 (rowsF x.2.1)],λ x=>n-x.1⟩) ((0,[],λ _=>false)) (⟨Nat.zero_le _,rfl⟩) (gC [0,2,1] (by repeat (first|exact trivial|(refine lC ?_ ?_;first|exact byLz|(exact le_row (Nat.le_refl _) (λ j hj=>absurd hj (Nat.not_lt_zero _)))|exact byLeq)))) ?_
 rintro⟨i,L,M⟩ ⟨hi,hT⟩
 have hlen:=cyTo_len p i
 dsimp only at hi hT
 rw[<-hT] at hlen
 simp only at hlen
 dsimp only[Hd.at]
 refine WP.seq ?_
 refine rS ?_
 refine cI (λ hc=>?_) λ hc=>?_
 ·have hi:i<n:=by have:=of_decide_eq_true hc;omega
  clear hc
  refine WP.seq (WP.block ?_)
  refine rS ?_
  refine WP.seq ?_
  refine rS ?_
  refine WP.block ?_
  refine WP.loopH (⟨λ x:Nat×List Nat×(Nat->Bool)=>CInv n x.1 x.2.1 x.2.2/\cyc p x.1 x.2.1 x.2.2=cyc p i [] M,λ x=>[(1,.i .i64 n),(2,.p 0 [] 0),(5,.sl 2 0 L.length 1),(6,.p 1 [] 0),(7,.i .i64 (i:Int)),(8,.sl 3 0 x.2.1.length 1),(9,.i .i64 (x.1:Int))],λ x=>[.var (pl p),.var (bl x.2.2),.row 30 L.length 1 (rowsF L),.row 2 x.2.1.length 1 (numsF x.2.1)],λ x=>cntU 16 x.2.2⟩) ((i,[],M)) (⟨⟨by simp,hi,by have:=cntU_le 16 M;simpa using this⟩,rfl⟩) (gC [0,1,2,3] (by repeat (first|exact trivial|(refine lC ?_ ?_;first|exact byLz|(exact le_row (Nat.le_refl _) (λ j hj=>absurd hj (Nat.not_lt_zero _)))|exact byLeq)))) ?_
  rintro⟨k,l,mt⟩ ⟨hI,hF⟩
  simp only at hI hF
  dsimp only[Hd.at]
  have hk16:k<16:=by have:=hI.here;omega
  have hl16:l.length<=16:=by have:=hI.len;omega
  have hpk:=hp _ hI.here
  refine WP.seq ?_
  refine rS ?_
  refine cI (λ hc=>?_) λ hc=>?_
  ·have hm:mt k=false:=by simpa using hc
   clear hc
   have hI':=hI.step hn hp hm
   have hc':=cyc_new (p:=p) (l:=l) hk16 hm
   have hcu:=cntU_up (met:=mt) hk16 hm
   refine WP.seq (WP.block ?_)
   refine rS ?_
   refine rE ?_
   refine rE ?_
   refine Again.next ((p k,l++[k],up mt k true)) (gC [0,1,2,5] (by repeat (first|exact trivial|(refine lC ?_ ?_;first|exact byLz|(exact le_row (by simp) (λ j hj=>ap_nums l k _ j (by simpa using hj)))|exact byLeq)))) (⟨hI',hc'.symm.trans hF⟩) (by dsimp only;omega)
  ·have hm:mt k=true:=by simpa using hc
   clear hc
   rw[cyc_old hm] at hF
   refine rS ?_
   cases hMi:M i
   ·have hl1:1<=l.length:=by
     have:=cyc_pos (p:=p) (k:=i) (by omega) hMi
     rw[<-hF] at this;exact this
    have hn1:cyTo p (i+1)=(L++[l],mt):=by rw[cyTo_new (by rw[<-hT];exact hMi), <-hT];simp only;rw[<-hF]
    refine cS (λ h=>?_) λ h=>?_
    ·clear h
     refine rE ?_
     refine rE ?_
     refine Again.step (Ghost.giveLast 5 3 (by rfl) rfl rfl (by rfl) (by rfl) (Nat.le_refl _)) ?_
     refine Again.next ((i+1,L++[l],mt)) (gC [0,1,5] (by repeat (first|exact trivial|(refine lC ?_ ?_;first|exact byLz|(exact le_row (by simp) (λ j hj=>ap_rows L l _ j (by simpa using hj)))|exact byLeq)))) (⟨hi,hn1.symm⟩) (by dsimp only;omega)
    ·have:=of_decide_eq_false h;omega
   ·rw[cyc_old hMi] at hF
    cases hF
    refine cS (λ h=>?_) λ h=>?_
    ·have:=of_decide_eq_true h;simp at this
    ·have hn1:cyTo p (i+1)=(L,M):=by rw[cyTo_old (by rw[<-hT];exact hMi), <-hT]
     refine rE ?_
     refine Again.next ((i+1,L,M)) (gC [0,1,2] (leC (leC (leC leZ)))) (⟨hi,hn1.symm⟩) (by dsimp only;omega)
 ·have hi:i=n:=by have:=of_decide_eq_false hc;omega
  subst hi
  have hc':cycs p i=L:=by unfold cycs;rw[<-hT]
  rw[hc']
  refine rS ?_
  exact WP.ret (Ends.new [2] (by rfl) (by exact byObl) (leC leZ) rfl rfl (rfl) (sc_sl rfl))
theorem cycles_fn(p:Nat->Nat)(n:Nat)(hn:n<=16)(hp:∀i,i<n->p i<n):FnS Tryz.prog 86 [pl p,.i .i64 n] [] (λ r m'=>r=.sl 0 0 (cycs p n).length 1/\m'=[.row 30 (cycs p n).length 1 (rowsF (cycs p n))]):=by
 refine FnS.intoN T tok Tryz.func86 (by rfl) rfl rfl rfl (by simp) ?_
 refine rS ?_
 refine rS ?_
 refine rS ?_
 refine WP.seq ?_
 refine rS ?_
 refine WP.block ?_
 refine WP.loopH (⟨λ x:Nat×List (List Nat)×(Nat->Bool)=>x.1<=n/\x.2=cyTo p x.1,λ x=>[(2,.p 0 [] 0),(5,.sl 2 0 x.2.1.length 1),(6,.p 1 [] 0),(12,.i .i64 n),(13,.i .i64 (x.1:Int))],λ x=>[.var (pl p),.var (bl x.2.2),.row 30 x.2.1.length 1 (rowsF x.2.1)],λ x=>n-x.1⟩) ((0,[],λ _=>false)) (⟨Nat.zero_le _,rfl⟩) (gC [0,2,1] (by repeat (first|exact trivial|(refine lC ?_ ?_;first|exact byLz|(exact le_row (Nat.le_refl _) (λ j hj=>absurd hj (Nat.not_lt_zero _)))|exact byLeq)))) ?_
 rintro⟨i,L,M⟩ ⟨hi,hT⟩
 have hlen:=cyTo_len p i
 dsimp only at hi hT
 rw[<-hT] at hlen
 simp only at hlen
 dsimp only[Hd.at]
 refine rS ?_
 refine WP.seq ?_
 refine cI (λ hc=>?_) λ hc=>?_
 ·have hi:i<n:=by have:=of_decide_eq_true hc;omega
  have hi16:i<16:=by omega
  clear hc
  refine WP.seq (WP.block ?_)
  refine rS ?_
  refine WP.seq ?_
  refine rS ?_
  cases hMi:M i
  ·refine cS (λ h=>?_) λ h=>?_
   ·have h:M i=true:=h;rw[hMi] at h;cases h
   clear h
   refine rS ?_
   refine WP.seq ?_
   refine rS ?_
   refine WP.block ?_
   refine WP.loopH (⟨λ x:Nat×List Nat×(Nat->Bool)=>CInv n x.1 x.2.1 x.2.2/\cyc p x.1 x.2.1 x.2.2=cyc p i [] M,λ x=>[(2,.p 0 [] 0),(5,.sl 2 0 L.length 1),(6,.p 1 [] 0),(12,.i .i64 n),(13,.i .i64 (i:Int)),(8,.sl 3 0 x.2.1.length 1),(9,.i .i64 (x.1:Int))],λ x=>[.var (pl p),.var (bl x.2.2),.row 30 L.length 1 (rowsF L),.row 2 x.2.1.length 1 (numsF x.2.1)],λ x=>cntU 16 x.2.2⟩) ((i,[],M)) (⟨⟨by simp,hi,by have:=cntU_le 16 M;simpa using this⟩,rfl⟩) (gC [0,1,2,3] (by repeat (first|exact trivial|(refine lC ?_ ?_;first|exact byLz|(exact le_row (Nat.le_refl _) (λ j hj=>absurd hj (Nat.not_lt_zero _)))|exact byLeq)))) ?_
   rintro⟨k,l,mt⟩ ⟨hI,hF⟩
   simp only at hI hF
   dsimp only[Hd.at]
   have hk16:k<16:=by have:=hI.here;omega
   have hl16:l.length<=16:=by have:=hI.len;omega
   have hpk:=hp _ hI.here
   refine WP.seq ?_
   refine rS ?_
   refine cI (λ hc=>?_) λ hc=>?_
   ·have hm:mt k=false:=by simpa using hc
    clear hc
    have hI':=hI.step hn hp hm
    have hc':=cyc_new (p:=p) (l:=l) hk16 hm
    have hcu:=cntU_up (met:=mt) hk16 hm
    refine WP.seq (WP.block ?_)
    refine rS ?_
    refine rE ?_
    refine rE ?_
    refine Again.next ((p k,l++[k],up mt k true)) (gC [0,1,2,5] (by repeat (first|exact trivial|(refine lC ?_ ?_;first|exact byLz|(exact le_row (by simp) (λ j hj=>ap_nums l k _ j (by simpa using hj)))|exact byLeq)))) (⟨hI',hc'.symm.trans hF⟩) (by dsimp only;omega)
   ·have hm:mt k=true:=by simpa using hc
    clear hc
    rw[cyc_old hm] at hF
    have hn1:cyTo p (i+1)=(L++[l],mt):=by rw[cyTo_new (by rw[<-hT];exact hMi), <-hT];simp only;rw[<-hF]
    refine rE ?_
    refine rE ?_
    refine Again.step (Ghost.giveLast 5 3 (by rfl) rfl rfl (by rfl) (by rfl) (Nat.le_refl _)) ?_
    refine Again.next ((i+1,L++[l],mt)) (gC [0,1,5] (by repeat (first|exact trivial|(refine lC ?_ ?_;first|exact byLz|(exact le_row (by simp) (λ j hj=>ap_rows L l _ j (by simpa using hj)))|exact byLeq)))) (⟨hi,hn1.symm⟩) (by dsimp only;omega)
  ·refine cS (λ h=>?_) λ h=>?_
   ·refine WP.exit ?_
    have hn1:cyTo p (i+1)=(L,M):=by rw[cyTo_old (by rw[<-hT];exact hMi), <-hT]
    refine rE ?_
    refine Again.next ((i+1,L,M)) (gC [0,1,2] (leC (leC (leC leZ)))) (⟨hi,hn1.symm⟩) (by dsimp only;omega)
   ·have h:M i=false:=h;rw[hMi] at h;cases h
 ·have hi:i=n:=by have:=of_decide_eq_false hc;omega
  subst hi
  have hc':cycs p i=L:=by unfold cycs;rw[<-hT]
  rw[hc']
  refine rS ?_
  exact WP.ret (Ends.new [2] (by rfl) (by exact byObl) (leC leZ) rfl rfl (rfl) (sc_sl rfl))
theorem Perm.then{N:Nat}{p q:Nat->Nat}(hp:Perm N p)(hq:Perm N q):∀i,i<N->fillF (λ i=>q (p i)) N i<N:=λ i hi=>by
 unfold fillF;rw[if_pos hi];exact hq.lt _ (hp.lt _ hi)
def faceF(N:Nat)(b w:Nat->Nat):Nat->Nat:=backTo (fillF (λ i=>w (b i)) N) N
theorem face_fn(N:Nat)(b w:Nat->Nat)(hD:Des N b w):FnP Tryz.prog 60 [ds_ N b w] (pl (faceF N b w)):=by
 refine FnS.into T tok Tryz.func60 (by rfl) rfl rfl rfl (by simp) ?_
 refine rS ?_
 refine WP.seq ?_
 refine WP.da (by kernel_rfl) 10 (by kernel_rfl) ?_
 refine WA.takes T false tok [0,1,2,3,4,5,7,8] (f':=3) (by kernel_rfl) (by rfl) (by rfl) (by rfl) (by exact byObl) (by rfl) (by rfl) ?_
 refine WA.all [6] (by kernel_rfl) (by simp) ?_;intro i' hi';simp only[List.mem_cons,List.not_mem_nil,or_false] at hi'
 subst hi'
 refine⟨_,_,_,rfl,by rfl,by rfl,MK.callP (then_fn b w N hD.le hD.pb.lt) (by rfl) (by simp[Sc,sc_pl,sc_ds,pl_ne,ds_ne]),?_⟩
 refine WA.all [9] (by kernel_rfl) (by simp) ?_;intro i' hi';simp only[List.mem_cons,List.not_mem_nil,or_false] at hi'
 subst hi'
 refine⟨_,_,_,rfl,by rfl,by rfl,MK.callP (back_fn _ N hD.le (hD.pb.then hD.pw)) (by rfl) (by simp[Sc,sc_pl,sc_ds,pl_ne,ds_ne]),?_⟩
 refine WA.tail (by rfl) (by rfl) (by kernel_rfl) ?_
 refine rF ?_
 refine noPan ?_
 exact WP.ret (Ends.val (by rfl) (by exact byObl) (by rfl) (by exact sc_pl _ _))
theorem l01Face_fn(N:Nat)(b w:Nat->Nat)(hD:Des N b w):FnP Tryz.prog 92 [ds_ N b w] (pl (faceF N b w)):=by
 refine FnS.into T tok Tryz.func92 (by rfl) rfl rfl rfl (by simp) ?_
 refine rS ?_
 refine WP.seq ?_
 refine WP.da (by kernel_rfl) 10 (by kernel_rfl) ?_
 refine WA.takes T false tok [0,1,2,3,4,5,7,8] (f':=3) (by kernel_rfl) (by rfl) (by rfl) (by rfl) (by exact byObl) (by rfl) (by rfl) ?_
 refine WA.all [6] (by kernel_rfl) (by simp) ?_;intro i' hi';simp only[List.mem_cons,List.not_mem_nil,or_false] at hi'
 subst hi'
 refine⟨_,_,_,rfl,by rfl,by rfl,MK.callP (l01Then_fn b w N hD.le hD.pb.lt) (by rfl) (by simp[Sc,sc_pl,sc_ds,pl_ne,ds_ne]),?_⟩
 refine WA.all [9] (by kernel_rfl) (by simp) ?_;intro i' hi';simp only[List.mem_cons,List.not_mem_nil,or_false] at hi'
 subst hi'
 refine⟨_,_,_,rfl,by rfl,by rfl,MK.callP (l01Back_fn _ N hD.le (hD.pb.then hD.pw)) (by rfl) (by simp[Sc,sc_pl,sc_ds,pl_ne,ds_ne]),?_⟩
 refine WA.tail (by rfl) (by rfl) (by kernel_rfl) ?_
 refine rF ?_
 refine noPan ?_
 exact WP.ret (Ends.val (by rfl) (by exact byObl) (by rfl) (by exact sc_pl _ _))
def renTo(p b:Nat->Nat):Nat->Nat->Nat
 |0=>λ _=>0
 |k+1=>up (renTo p b k) (p k) (p (b k))
end Go.Proofs.YthjnmlpibafbnaaGreat

namespace Go.Proofs.YthjnmlpibafbnaaGreat.DM
open Go.RowKit
set_option linter.unusedVariables false
set_option linter.unusedSimpArgs false
section
variable {P:Program}{T:TyEnv}{N K:Nat}{Q:Exit->St->Prop}{ops:Array Oper}{n:Nat}
def TKE(P:Program)(o:Oper)(fr:Nat->Dat)(m:List Root)(G:Dat->List Root->Prop):Prop:=
 ∀(N:Nat) (ρ:Rho) (a:Act) (w:World),Frm m.length ρ N fr a.tmps->Rep ρ m w->∀(Kc:Act->World->Prop) (Q':Exit->Act->World->Prop),
  (∀ρ' u w' v m',G v m'->Holds m'.length ρ' v u->Rep ρ' m' w'->Tr ρ m w ρ' m' w'->Kc (a.put o.dst u) w')->o.wp P a w Kc Q'
theorem TKE.of{o:Oper}{fr:Nat->Dat}{m m':List Root}{v:Dat}(h:TK P o fr m v m'):TKE P o fr m λ x y=>x=v/\y=m':=by
 intro N ρ a w hf hr Kc Q' hK
 exact h N ρ a w hf hr Kc Q' λ ρ' u w' h1 h2 h3=>hK ρ' u w' v m' ⟨rfl,rfl⟩ h1 h2 h3
theorem TKE.call{dst:Tmp}{args:List Operand}{tys:Array TypeId}{t:TypeId}{pos:String}{after:Array Edge}{gg:Option (Nat×Bool)}{f:FuncId}{xs:List Dat}{fr:Nat->Dat}{m m0:List Root}{Qf G:Dat->List Root->Prop}(ts:List Nat)(h:FnS P f xs m0 Qf)
  (hl:LeAll 0 m ts m0) (hk:sameKind m ts m0=true) (hdi:distinct ts=true) (hx:ArgsR (tauOf ts) fr xs args) (hsc:∀x∈xs,Sc m0.length x)
  (hc:∀r m1,Qf r m1->AllC0 m1/\∃r',renD (invT ts m.length) r r'/\Sc (putBack m ts m0 m1).length r'/\G r' (putBack m ts m0 m1)):
  TKE P { dst:=some dst,op:=.call { callee:=.value (.func f),args:=args.toArray,argTypes:=tys },type:=t,pos:=pos,after:=after,guard:=gg } fr m G:=by
 intro N ρ a w hfr hrep Kc Q' hK
 obtain⟨h1,h2⟩:=hx.eval hfr
 have h0:a.eval (.func f)=.func (.func f) #[] #[]:=rfl
 unfold Oper.wp
 rw[call_run rfl h0 (FnS.enter h)]
 simp only[Oper.upon]
 rw[show args.toArray.map a.eval=(xs.map (enc λ r=>ρ (tauOf ts r))).toArray by rw[<-h1];simp]
 refine(FnS.calls h _ w (hrep.taken (Taken.view ts hl (by rw[hdi];simp))) (λ x hx=>⟨hsc x hx,h2 x hx⟩)).mono ?_
 rintro e w' ⟨r,ρ1,m1',rfl,h3,h4,h5,h6,h7⟩
 obtain⟨c1,r',c2,c3,c4⟩:=hc r m1' h7
 obtain⟨g1,g2,g3⟩:=hrep.call ts hl (.inl hk) hdi h5 h6 c1.get
 refine hK _ _ w' r' _ c4 (.inr ⟨?_,c3,renD_ok' c2 h4⟩) g1 g2
 rw[renD_enc c2]
 exact(enc_congr (n:=m1'.length) (λ j hj=>g3 j hj) r h3).symm
def WAE2(P:Program)(N K:Nat)(ops:Array Oper)(Q:Exit->St->Prop)(n fuel:Nat)(listed:Array Bool)(fr:Nat->Dat)(m:List Root)(i:Nat):Prop:=
 ∃o G,ops[i]? =some o/\gd ops o fr=some true/\dstOK N o.dst=true/\(MKE P o fr m G\/(n<=i/\TKE P o fr m G))/\∀v m',G v m'->WA P N K ops Q n fuel (listed.setIfInBounds i true) ⟨putO fr o.dst v,m'⟩
theorem WA.allTE{fuel:Nat}{listed:Array Bool}{fr:Nat->Dat}{m:List Root}(rs:List Nat)(hr:Region.ready .any ops listed=rs)(hne:rs≠[])(h:∀i∈rs,WAE2 P N K ops Q n fuel listed fr m i):WA P N K ops Q n (fuel+1) listed ⟨fr,m⟩:=by
 intro hns hclo ρ a w ⟨hfr,hdf,hrep,hK⟩
 refine⟨λ h0=>absurd (hr▸h0) hne,λ i hi=>?_⟩
 obtain⟨o,G,ho,hg,hd,hmk,k⟩:=h i (hr▸hi)
 unfold wpOp
 simp only[ho]
 rw[if_pos (gd_wanted hg hfr)]
 have go:∀ρ' u w' v m',G v m'->Holds m'.length ρ' v u->Rep ρ' m' w'->Tr ρ m w ρ' m' w'->wpAnyS P ops (PostA N K ρ ⟨fr,m⟩ w Q) n fuel (listed.setIfInBounds i true) (a.put o.dst u) w':=λ ρ' u w' v m' hG hu hr' htr=>by
  have hreg':=k v m' hG hns (hclo.ready hi) ρ' (a.put o.dst u) w' ⟨(hfr.tr htr).putO hd hu,by rw[put_defers];exact hdf,hr',Nat.le_trans hK htr.len⟩
  exact wpAnyS_mono (PostA.tr (s:=⟨fr,m⟩) (s1:=⟨putO fr o.dst v,m'⟩) (htr.toK hK)) _ _ _ _ hreg'
 rcases hmk with hmk|⟨hn,hmk⟩
 ·exact .inl (hmk N ρ a w hfr hrep _ _ λ ρ' u w' v m' hG hu hr' htr hb=>⟨λ _=>hb,go ρ' u w' v m' hG hu hr' htr⟩)
 ·exact .inl (hmk N ρ a w hfr hrep _ _ λ ρ' u w' v m' hG hu hr' htr=>⟨λ h=>absurd h (Nat.not_lt.2 hn),go ρ' u w' v m' hG hu hr' htr⟩)
theorem WA.allTE1{fuel:Nat}{listed:Array Bool}{fr:Nat->Dat}{m:List Root}(i:Nat)(hr:Region.ready .any ops listed=[i])(h:WAE2 P N K ops Q n fuel listed fr m i):WA P N K ops Q n (fuel+1) listed ⟨fr,m⟩:=
 WA.allTE [i] hr (by simp) λ j hj=>by rw[List.mem_singleton.1 hj];exact h
theorem WA.allTE2{fuel:Nat}{listed:Array Bool}{fr:Nat->Dat}{m:List Root}(i j:Nat)(hr:Region.ready .any ops listed=[i,j])(h:WAE2 P N K ops Q n fuel listed fr m i)(h2:WAE2 P N K ops Q n fuel listed fr m j):WA P N K ops Q n (fuel+1) listed ⟨fr,m⟩:=
 WA.allTE [i,j] hr (by simp) λ k hk=>by
  rcases List.mem_cons.1 hk with rfl|hk
  ·exact h
  ·rw[List.mem_singleton.1 hk];exact h2
theorem WA.allTE3{fuel:Nat}{listed:Array Bool}{fr:Nat->Dat}{m:List Root}(i j l:Nat)(hr:Region.ready .any ops listed=[i,j,l])(h:WAE2 P N K ops Q n fuel listed fr m i)(h2:WAE2 P N K ops Q n fuel listed fr m j)(h3:WAE2 P N K ops Q n fuel listed fr m l):WA P N K ops Q n (fuel+1) listed ⟨fr,m⟩:=
 WA.allTE [i,j,l] hr (by simp) λ k hk=>by
  rcases List.mem_cons.1 hk with rfl|hk
  ·exact h
  ·rcases List.mem_cons.1 hk with rfl|hk
   ·exact h2
   ·rw[List.mem_singleton.1 hk];exact h3
theorem WAE2.q(hT:TOK P T){fuel i:Nat}{listed:Array Bool}{fr:Nat->Dat}{m m':List Root}{o:Oper}{v:Dat}{ps:List Prop}(ho:ops[i]? =some o)(hq:isQ o.op=true)(h:evalOp T false o.op fr m=some (ps,v,m'))(hg:gd ops o fr=some true)(hd:dstOK N o.dst=true)(hp:AllP ps)
  (k:WA P N K ops Q n fuel (listed.setIfInBounds i true) ⟨putO fr o.dst v,m'⟩):WAE2 P N K ops Q n fuel listed fr m i:=
 ⟨o,_,ho,hg,hd,.inl (MKE.of (MK.q (evalOp_q hT hq h hp))),λ _ _ ⟨e1,e2⟩=>by subst e1;subst e2;exact k⟩
theorem WAE2.t(hT:TOK P T){fuel i:Nat}{listed:Array Bool}{fr:Nat->Dat}{m m':List Root}{o:Oper}{v:Dat}{ps:List Prop}(hn:n<=i)(ho:ops[i]? =some o)(h:evalOp T false o.op fr m=some (ps,v,m'))(hg:gd ops o fr=some true)(hd:dstOK N o.dst=true)(hp:AllP ps)
  (k:WA P N K ops Q n fuel (listed.setIfInBounds i true) ⟨putO fr o.dst v,m'⟩):WAE2 P N K ops Q n fuel listed fr m i:=
 ⟨o,_,ho,hg,hd,.inr ⟨hn,TKE.of (TK.of hT h hp)⟩,λ _ _ ⟨e1,e2⟩=>by subst e1;subst e2;exact k⟩
end
end Go.Proofs.YthjnmlpibafbnaaGreat.DM

namespace Go.Proofs.YthjnmlpibafbnaaGreat
open Go.RowKit DM
set_option linter.unusedSimpArgs false
set_option linter.unusedVariables false
set_option maxRecDepth 100000
set_option maxHeartbeats 1000000
theorem l01Spoil_fn(len:Nat)(g:Nat->Nat)(hg:∀j,g j<256)(a:Nat)(h:Int)(most:Int)(hm1:1<=most)(hm:most<=16)(ha:a<=len)(hl:len<=4294967296):
  FnS Tryz.prog 67 [.p 0 [] 0,.i .i64 most] [.var (srcD len g a h)] λ r m'=>∃(n:Int) (b w:Nat->Nat) (a':Nat) (h':Int),r=ds_ n b w/\-1<=n/\n<=17/\Bt 256 b/\Bt 256 w/\a'<=len/\m'=[.var (srcD len g a' h')]:=by
 have hSc:∀(k a:Nat) (h:Int),Sc k (srcD len g a h):=λ k a h=>sc_src k len g a h
 have sc_ch:=hSc
 have hdr:=l01Draw_fn len g hg a h most hm1 hm ha hl
 refine FnS.intoE T tok Tryz.func67 (by rfl) rfl rfl rfl (by simp) ?_
 refine rS ?_
 refine WP.rw ?_
 refine rU 2 ?_
 refine WPL.callE [0] (hdr) (leC leZ) (by rfl) (by rfl) (by exact byArgs) (by rfl) (by rfl) (by simp[Sc,sc_pl,sc_ds]) ?_
 rintro _ _ ⟨n,b,w,a1,h1,rfl,hn1,hn2,hb,hw,ha1,rfl⟩
 have hn16:n<=16:=by omega
 have hb0:=hb.lt 0
 have hb0':=hb.lt (Int.toNat 0)
 refine⟨⟨λ d hd=>by cases hd;exact sc_src _ _ _ _ _,trivial⟩,ds_ n b w,⟨rfl,sc_ds _ _ _ _⟩,sc_ds _ _ _ _,?_⟩
 refine WPL.mem (by rfl) ?_
 refine rF ?_
 refine WP.ghost (gC [0,1,2] (leC (leC (leC leZ))) (l:=[(0,.p 0 [] 0),(4,.p 1 [] 0),(5,.p 2 [] 0)]) (m':=[.var (srcD len g a1 h1),.var (ds_ 0 (λ _=>0) (λ _=>0)),.var (ds_ n b w)])) ?_
 have hnx:=l01Next_fn len g hg a1 h1 40 ha1 hl
 have hB:=hb.mono (show n<=256 by omega)
 have hW:=hw.mono (show n<=256 by omega)
 refine WP.seq ?_
 refine WP.rw ?_
 refine rU 1 ?_
 refine WPL.callE [0] (hnx) (leC leZ) (by rfl) (by rfl) (by exact byArgs) (by rfl) (by rfl) (by simp[Sc,sc_pl,sc_ds]) ?_
 rintro _ _ ⟨z,a2,h2,rfl,_,_,ha2,rfl⟩
 refine⟨⟨λ d hd=>by cases hd;exact sc_src _ _ _ _ _,trivial⟩,.i .i64 z,⟨rfl,trivial⟩,trivial,?_⟩
 refine WPL.mem (by rfl) ?_
 refine rF ?_
 refine WP.block ?_
 refine rS ?_
 refine cQ (λ hz=>?_) λ hz=>?_
 ·refine WP.region ?_
  refine rF ?_
  refine WP.ghost (gC [0,1,2] (leC (leC (leC leZ))) (l:=[(0,.p 0 [] 0),(4,.p 1 [] 0),(5,.p 2 [] 0)]) (m':=[.var (srcD len g a2 h2),.var (ds_ 0 (λ _=>0) (λ _=>0)),.var (ds_ n (up b 0 (b 0+1)) w)])) ?_
  refine rS ?_
  exact WP.ret (Ends.newE [0] (⟨n,up b 0 (b 0+1),w,a2,h2,rfl,by omega,by omega,hB.up (by omega) (by omega),hW,ha2,rfl⟩) (.inl rfl) (by rfl) (by exact byObl) (leC leZ) rfl rfl (⟨rfl,sc_ds _ _ _ _⟩) (sc_ds _ _ _ _))
 refine rS ?_
 refine cQ (λ hz=>?_) λ hz=>?_
 ·let F:Nat->Int:=λ j=>if j=0 then 0 else if j=1 then 17 else if j=2 then-1 else if j=3 then(n:Int)+1 else(n:Int)-1
  have hF:∀j,-1<=F j/\F j<=17:=λ j=>by
   show-1<=(if j=0 then(0:Int) else if j=1 then 17 else if j=2 then-1 else if j=3 then(n:Int)+1 else(n:Int)-1)/\(if j=0 then(0:Int) else if j=1 then 17 else if j=2 then-1 else if j=3 then(n:Int)+1 else(n:Int)-1)<=17
   split
   ·omega
   ·split
    ·omega
    ·split
     ·omega
     ·split<;>omega
  have hpk:=l01Pick_fn len g hg a2 h2 5 F (by omega) (by omega) ha2 hl
  refine WP.region ?_
  refine rU 8 ?_
  refine WPL.callE [0,3] (hpk) (by repeat (first|exact trivial|(refine lC ?_ ?_;first|exact byLz|(exact le_row (Nat.le_refl _) (λ j hj=>by obtain rfl|rfl|rfl|rfl|rfl:j=0\/j=1\/j=2\/j=3\/j=4:=(by omega)<;>rfl))|exact byLeq))) (by rfl) (by rfl) (by exact byArgs) (by rfl) (by rfl) (by simp[Sc,sc_pl,sc_ds]) ?_
  rintro _ _ ⟨j1,a3,h3,rfl,_,ha3,rfl⟩
  refine⟨⟨λ d hd=>by cases hd;exact sc_src _ _ _ _ _,λ d hd=>by cases hd;exact λ _ _=>trivial,trivial⟩,.i .i64 (F j1),⟨rfl,trivial⟩,trivial,?_⟩
  refine WPL.mem (by rfl) ?_
  refine rF ?_
  refine WP.ghost (gC [0,1,2] (leC (leC (leC leZ))) (l:=[(0,.p 0 [] 0),(4,.p 1 [] 0),(5,.p 2 [] 0)]) (m':=[.var (srcD len g a3 h3),.var (ds_ 0 (λ _=>0) (λ _=>0)),.var (ds_ (F j1) b w)])) ?_
  refine rS ?_
  exact WP.ret (Ends.newE [0] (⟨F j1,b,w,a3,h3,rfl,(hF _).1,(hF _).2,hB,hW,ha3,rfl⟩) (.inl rfl) (by rfl) (by exact byObl) (leC leZ) rfl rfl (⟨rfl,sc_ds _ _ _ _⟩) (sc_ds _ _ _ _))
 refine rS ?_
 refine cQ (λ hz=>?_) λ hz=>?_
 ·refine WP.region ?_
  refine rU 2 ?_
  refine WPL.op (by rfl) (by rfl) (QOK.op (minD_ok rfl rfl rfl)) ?_
  rw[if_neg (by omega:¬(16:Int)<(n:Int))]
  refine cA (l01Same_fn n hn16) ?_
  refine rF ?_
  refine WP.ghost (gC [0,1,2] (leC (leC (leC leZ))) (l:=[(0,.p 0 [] 0),(4,.p 1 [] 0),(5,.p 2 [] 0)]) (m':=[.var (srcD len g a2 h2),.var (ds_ 0 (λ _=>0) (λ _=>0)),.var (ds_ n b (fillF (λ i=>i) n))])) ?_
  have hbf:=bt_fill (n:=(n:Int)) (by omega)
  rw[bN_nat hn1] at hbf
  refine rS ?_
  exact WP.ret (Ends.newE [0] (⟨n,b,fillF (λ i=>i) n,a2,h2,rfl,by omega,by omega,hB,hbf.mono (by omega),ha2,rfl⟩) (.inl rfl) (by rfl) (by exact byObl) (leC leZ) rfl rfl (⟨rfl,sc_ds _ _ _ _⟩) (sc_ds _ _ _ _))
 refine rS ?_
 refine cQ (λ hz=>?_) λ hz=>?_
 ·let F:Nat->Int:=λ j=>if j=0 then 1 else 255
  have hpk:=l01Pick_fn len g hg a2 h2 2 F (by omega) (by omega) ha2 hl
  refine WP.region ?_
  refine rU 2 ?_
  refine WPL.callE [0,3] (hpk) (by repeat (first|exact trivial|(refine lC ?_ ?_;first|exact byLz|(exact le_row (Nat.le_refl _) (λ j hj=>by obtain rfl|rfl:j=0\/j=1:=(by omega)<;>rfl))|exact byLeq))) (by rfl) (by rfl) (by exact byArgs) (by rfl) (by rfl) (by simp[Sc,sc_pl,sc_ds]) ?_
  rintro _ _ ⟨j1,a3,h3,rfl,hj1,ha3,rfl⟩
  obtain⟨v,hv,hv2⟩:∃v:Nat,F j1=v/\v<256:=by
   show∃v:Nat,(if j1=0 then(1:Int) else 255)=v/\v<256
   split
   ·exact⟨1,rfl,by omega⟩
   ·exact⟨255,rfl,by omega⟩
  refine⟨⟨λ d hd=>by cases hd;exact sc_src _ _ _ _ _,λ d hd=>by cases hd;exact λ _ _=>trivial,trivial⟩,.i .i64 (v:Int),⟨congrArg (Dat.i .i64) hv.symm,trivial⟩,trivial,?_⟩
  refine WPL.mem (by rfl) ?_
  refine rF ?_
  refine WP.ghost (gC [0,1,2] (leC (leC (leC leZ))) (l:=[(0,.p 0 [] 0),(4,.p 1 [] 0),(5,.p 2 [] 0)]) (m':=[.var (srcD len g a3 h3),.var (ds_ 0 (λ _=>0) (λ _=>0)),.var (ds_ n b (up w 15 v))])) ?_
  refine rS ?_
  exact WP.ret (Ends.newE [0] (⟨n,b,up w 15 v,a3,h3,rfl,by omega,by omega,hB,hW.up (by omega) hv2,ha3,rfl⟩) (.inl rfl) (by rfl) (by exact byObl) (leC leZ) rfl rfl (⟨rfl,sc_ds _ _ _ _⟩) (sc_ds _ _ _ _))
 ·refine WP.skip ?_
  refine rS ?_
  exact WP.ret (Ends.newE [0] (⟨n,b,w,a2,h2,rfl,by omega,by omega,hB,hW,ha2,rfl⟩) (.inl rfl) (by rfl) (by exact byObl) (leC leZ) rfl rfl (⟨rfl,sc_ds _ _ _ _⟩) (sc_ds _ _ _ _))
def chainB(n:Nat):Nat->Nat->Nat
 |0=>fillF (λ i=>i) n
 |k+1=>if k % 2=0 then chainB n k else up (up (chainB n k) k (k+1)) (k+1) k
def chainW(n:Nat):Nat->Nat->Nat
 |0=>fillF (λ i=>i) n
 |k+1=>if k % 2=0 then up (up (chainW n k) k (k+1)) (k+1) k else chainW n k
theorem tmod2(k:Nat):((k:Int)).tmod 2=((k % 2:Nat):Int):=by rw[Int.tmod_eq_emod_of_nonneg (by omega)];simp
theorem l01Chain_fn(n:Nat)(h1:1<=n)(hn:n<=16):FnP Tryz.prog 64 [.i .i64 n] (ds_ n (chainB n (n-1)) (chainW n (n-1))):=by
 refine FnS.into T tok Tryz.func64 (by rfl) rfl rfl rfl (by simp) ?_
 refine rS ?_
 refine WP.rw ?_
 refine rU 2 ?_
 refine cA (l01Same_fn n hn) ?_
 refine rU 1 ?_
 refine cA (l01Same_fn n hn) ?_
 refine rF ?_
 refine WP.seq ?_
 refine rS ?_
 refine WP.block ?_
 refine WP.loopS [4,11,12,13,14,15,16,17,18,19,20,21,22,23,24,25,26,27,28,29,30,31,32,33,34,35,36,37,38,39,40,41,42,43] (λ k:Nat=>k<=n-1) (λ k=>[(4,.i .i64 k)]) (λ k=>[.var (ds_ 0 (λ _=>0) (λ _=>0)),.var (ds_ n (chainB n k) (chainW n k))]) (λ k=>n-k) 0 (by omega) (by rfl) (mem2 (dsf_of rfl rfl rfl λ _=>rfl) (dsf_of rfl rfl rfl λ _=>rfl)) ?_
 intro k hk g
 refine WP.seq ?_
 refine rS ?_
 refine cI (λ hc=>?_) λ hc=>?_
 ·have hk:k+1<n:=by have:=of_decide_eq_true hc;omega
  refine WP.seq (WP.block ?_)
  refine rS ?_
  refine cQ (λ h2=>?_) λ h2=>?_
  ·have h2:k % 2=0:=by have:=of_decide_eq_true h2;rw[tmod2] at this;omega
   refine rS ?_
   refine WP.mem (by simp only[upd,pl,dsf,cast1,Int.toNat_natCast,fup_u8,fup_b,fup_i64,dsf_up0,dsf_up1,dsf_up2];rfl) ?_
   refine rE ?_
   refine rE ?_
   refine⟨k+1,by omega,by omega,by(dsimp only;(repeat (first|(with_reducible exact Agree.refl)|((with_reducible refine Agree.hd ?_);exact rfl)|((with_reducible refine Agree.fup ?_ ?_);exact rfl)|((with_reducible refine Agree.inner ?_ ?_ ?_);exact rfl;exact rfl)))),by first|rfl|simp[Slots],by first|rfl|(simp only[upd,pl,dsf,cast1,Int.toNat_natCast,fup_u8,fup_b,fup_i64,dsf_up0,dsf_up1,dsf_up2];done)|(simp only[upd,pl,dsf,cast1,Int.toNat_natCast,fup_u8,fup_b,fup_i64,dsf_up0,dsf_up1,dsf_up2];first|((simp only[chainB,chainW,if_pos h2]);done)|((simp only[chainB,chainW,if_pos h2]);rfl))⟩
  ·have h2:¬k % 2=0:=by have:=of_decide_eq_false h2;rw[tmod2] at this;omega
   refine rS ?_
   refine WP.mem (by simp only[upd,pl,dsf,cast1,Int.toNat_natCast,fup_u8,fup_b,fup_i64,dsf_up0,dsf_up1,dsf_up2];rfl) ?_
   refine rE ?_
   refine rE ?_
   refine⟨k+1,by omega,by omega,by(dsimp only;(repeat (first|(with_reducible exact Agree.refl)|((with_reducible refine Agree.hd ?_);exact rfl)|((with_reducible refine Agree.fup ?_ ?_);exact rfl)|((with_reducible refine Agree.inner ?_ ?_ ?_);exact rfl;exact rfl)))),by first|rfl|simp[Slots],by first|rfl|(simp only[upd,pl,dsf,cast1,Int.toNat_natCast,fup_u8,fup_b,fup_i64,dsf_up0,dsf_up1,dsf_up2];done)|(simp only[upd,pl,dsf,cast1,Int.toNat_natCast,fup_u8,fup_b,fup_i64,dsf_up0,dsf_up1,dsf_up2];first|((simp only[chainB,chainW,if_neg h2]);done)|((simp only[chainB,chainW,if_neg h2]);rfl))⟩
 ·have hk:k=n-1:=by have:=of_decide_eq_false hc;omega
  subst hk
  refine rS ?_
  exact WP.ret (Ends.val (by rfl) (by exact byObl) (by rfl) (by exact sc_ds _ _ _ _))
end Go.Proofs.YthjnmlpibafbnaaGreat
