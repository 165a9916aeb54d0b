import Derived.Test.YthjnmlpibafbnaaGreatD34
import Derived.Test.YthjnmlpibafbnaaGreatX8
import Derived.Test.YthjnmlpibafbnaaGreatX6
import Derived.Test.YthjnmlpibafbnaaGreatX30
import Derived.Test.YthjnmlpibafbnaaGreatL33
import Derived.Test.YthjnmlpibafbnaaGreatX147
namespace Go.Proofs.YthjnmlpibafbnaaGreat
open Go.RowKit DM
set_option linter.unusedSimpArgs false
set_option linter.unusedVariables false
set_option maxRecDepth 100000
set_option maxHeartbeats 1000000
def rwD(f:Nat->Nat->Nat):Dat:=.ar 16 16 λ a=>pl (f a)
theorem rw_up(f:Nat->Nat->Nat)(y:Nat)(g:Nat->Nat):Dat.ar 16 16 (fup (λ a=>pl (f a)) y (pl g))=rwD (up f y g):=by
 unfold rwD
 congr 1
 funext a
 by_cases h:a=y
 ·subst h;rw[fup_same];simp[up]
 ·rw[fup_ne _ _ h];simp[up,h]
structure IM(N:Nat)(L:List (Nat->Nat))(x0:Nat)(s:List Nat×(Nat->Bool))(f:Nat->Nat->Nat):Prop where
 gr:∀a∈s.1,Grp N L (f a)/\f a x0=a
 met:∀z,s.2 z=true↔z∈s.1
 base:x0∈s.1
theorem IM.add{N:Nat}{L:List (Nat->Nat)}{x0:Nat}(hx0:x0<N){Q:List Nat}{met:Nat->Bool}{f:Nat->Nat->Nat}(h:IM N L x0 (Q,met) f){a:Nat}(ha:a∈Q){p:Nat->Nat}(hp:p∈L)(hm:met (p a)=false):IM N L x0 (bst (p a) (Q,met)) (up f (p a) (mulF N (f a) p)):=by
 have hn:p a∉Q:=λ hc=>Bool.false_ne_true (hm.symm.trans ((h.met (p a)).2 hc))
 rw[bst_new hm]
 refine⟨λ z hz=>?_,λ z=>?_,List.mem_append.2 (.inl h.base)⟩
 ·rcases List.mem_append.1 hz with hz|hz
  ·have:z≠p a:=λ e=>hn (e▸hz)
   simp only[up,if_neg this]
   exact h.gr z hz
  ·rw[List.mem_singleton.1 hz]
   simp only[up,if_pos]
   exact⟨.mul (h.gr a ha).1 hp,by rw[mul_at hx0,(h.gr a ha).2]⟩
 ·simp only[up]
  by_cases e:z=p a
  ·subst e;simp
  ·rw[if_neg e]
   have:=h.met z
   simp only at this
   rw[this];simp[e]
theorem mem_bst(y:Nat)(s:List Nat×(Nat->Bool))(h:s.2 y=true↔y∈s.1):y∈(bst y s).1:=by
 unfold bst
 cases e:s.2 y
 ·simp
 ·exact h.1 e
theorem bits_up(q:Nat->Nat)(i:Nat):(λ z=>(mskTo q (i+1)).testBit z)=up (λ z=>(mskTo q i).testBit z) (q i) true:=by
 funext z
 rw[mskTo,Nat.testBit_or,Nat.testBit_two_pow]
 unfold up
 by_cases h:z=q i
 ·subst h;simp
 ·rw[if_neg h,decide_eq_false λ e=>h e.symm,Bool.or_false]
theorem im_end{N m x n N0:Nat}{b w gn:Nat->Nat}{P:Program}{ops:Array Oper}{listed:Array Bool}{Q:Exit->St->Prop}{fr:Nat->Dat}{mm:List Root}(i j k:Nat)
  (hr:Region.ready .any ops listed=[]:=by kernel_rfl) (h:LeAll 1 mm [0,1,i,j,k] [.ro m 1 (nmF gn),.var (ds_ N b w),.var (rwD λ _ _=>0),.var (bl λ _=>false),.row 2 1 1 (numsF [gn 0])]:=by exact LeAll.cons (by rfl) (Root.Le.refl _) (by exact byCon) (LeAll.cons (by rfl) (by exact byLeq) (by exact byCon) (LeAll.cons (by rfl) (le_var rfl) (by exact byCon) (LeAll.cons (by rfl) (le_var rfl) (by exact byCon) (LeAll.cons (by rfl) (le_row (Nat.le_refl _) (λ j hj=>by obtain rfl:j=0:=(by have:j<1:=hj;omega);rfl)) (by exact byCon) trivial)))))
  (hd:DM.distinct [0,1,i,j,k]=true:=by rfl) (hs:startsWith 1 0 [0,1,i,j,k]=true:=by rfl) (hl:SlotsR (tauOf [0,1,i,j,k]) 5 fr [(1,.sl 0 0 m 1),(2,.i .i64 (x:Int)),(3,.p 1 [] 0),(7,.p 2 [] 0),(8,.p 3 [] 0),(9,.sl 4 0 1 1)]:=by exact bySlots):WA P N0 1 ops (Then (λ s'=>Ghost 1 s' ⟨lst [(1,.sl 0 0 m 1),(2,.i .i64 (x:Int)),(3,.p 1 [] 0),(7,.p 2 [] 0),(8,.p 3 [] 0),(9,.sl 4 0 1 1)],[.ro m 1 (nmF gn),.var (ds_ N b w),.var (rwD λ _ _=>0),.var (bl λ _=>false),.row 2 1 1 (numsF [gn 0])]⟩) Q) n 0 listed ⟨fr,mm⟩:=
 WA.end rfl hr (noPan (Ghost.cut (Nat.le_refl _) (tauOf [0,1,i,j,k]) _ _ (Taken.of [0,1,i,j,k] h hd hs) hl))
theorem l03Image_fn(N:Nat)(b w:Nat->Nat)(hD:Des N b w)(hL:∀p∈[b,w],Np N p)(m:Nat)(gn:Nat->Nat)(hm0:0<m)(hm:m<=1048576)(hgn:∀t,t<m->gn t<N)(x:Nat)(hx:x<N):FnS Tryz.prog 78 [ds_ N b w,.sl 0 0 m 1,.i .i64 (x:Int)] [.ro m 1 (nmF gn)] λ r m'=>∃S,r=.sl 1 0 (bitsL S N).length 1/\m'=[.ro m 1 (nmF gn),.row 2 (bitsL S N).length 1 (numsF (bitsL S N))]/\Orb N [b,w] (mskTo gn m) S/\S.testBit x=true:=by
 have hN:=hD.le
 have hx0:=hgn 0 hm0
 have hb:=hD.pb.lt
 have hw:=hD.pw.lt
 refine FnS.intoE T tok Tryz.func78 (by rfl) rfl rfl rfl (by simp) ?_
 refine rS ?_
 refine WP.seqG ⟨lst [(1,.sl 0 0 m 1),(2,.i .i64 (x:Int)),(3,.p 1 [] 0),(7,.p 2 [] 0),(8,.p 3 [] 0),(9,.sl 4 0 1 1)],[.ro m 1 (nmF gn),.var (ds_ N b w),.var (rwD λ _ _=>0),.var (bl λ _=>false),.row 2 1 1 (numsF [gn 0])]⟩ ?_ ?_
 ·refine WP.da (by kernel_rfl) 8 (by kernel_rfl) ?_
  refine wd [0,1,2] 8 ?_
  refine w3 3 6 7 (wq ?_) (wm ?_) (wm ?_)
  ·
   refine w3 4 6 7 (wq ?_) (wm ?_) (wm ?_)
   ·
    refine w3 5 6 7 (wm ?_) (wm ?_) (wm ?_)
    ·
     refine w2 6 7 (wm ?_) (wm ?_)
     ·
      refine w1 7 (wm ?_)
      refine w1 8 (wt ?_)
      refine w1 9 (wt ?_)
      refine w1 10 (wt ?_)
      exact im_end 3 4 2
     ·
      refine w1 6 (wm ?_)
      refine w1 8 (wt ?_)
      refine w1 9 (wt ?_)
      refine w1 10 (wt ?_)
      exact im_end 4 3 2
    ·
     refine w2 5 7 (wm ?_) (wm ?_)
     ·
      refine w1 7 (wm ?_)
      refine w1 8 (wt ?_)
      refine w1 9 (wt ?_)
      refine w1 10 (wt ?_)
      exact im_end 2 4 3
     ·
      refine w2 5 8 (wm ?_) (wt ?_)
      ·
       refine w1 8 (wt ?_)
       refine w1 9 (wt ?_)
       refine w1 10 (wt ?_)
       exact im_end 2 3 4
      ·
       refine w2 5 9 (wm ?_) (wt ?_)
       ·
        refine w1 9 (wt ?_)
        refine w1 10 (wt ?_)
        exact im_end 2 3 4
       ·
        refine w1 5 (wm ?_)
        refine w1 10 (wt ?_)
        exact im_end 2 3 4
    ·
     refine w2 5 6 (wm ?_) (wm ?_)
     ·
      refine w1 6 (wm ?_)
      refine w1 8 (wt ?_)
      refine w1 9 (wt ?_)
      refine w1 10 (wt ?_)
      exact im_end 4 2 3
     ·
      refine w2 5 8 (wm ?_) (wt ?_)
      ·
       refine w1 8 (wt ?_)
       refine w1 9 (wt ?_)
       refine w1 10 (wt ?_)
       exact im_end 3 2 4
      ·
       refine w2 5 9 (wm ?_) (wt ?_)
       ·
        refine w1 9 (wt ?_)
        refine w1 10 (wt ?_)
        exact im_end 3 2 4
       ·
        refine w1 5 (wm ?_)
        refine w1 10 (wt ?_)
        exact im_end 3 2 4
   ·
    refine w2 4 7 (wq ?_) (wm ?_)
    ·
     refine w2 5 7 (wm ?_) (wm ?_)
     ·
      refine w1 7 (wm ?_)
      refine w1 8 (wt ?_)
      refine w1 9 (wt ?_)
      refine w1 10 (wt ?_)
      exact im_end 2 4 3
     ·
      refine w2 5 8 (wm ?_) (wt ?_)
      ·
       refine w1 8 (wt ?_)
       refine w1 9 (wt ?_)
       refine w1 10 (wt ?_)
       exact im_end 2 3 4
      ·
       refine w2 5 9 (wm ?_) (wt ?_)
       ·
        refine w1 9 (wt ?_)
        refine w1 10 (wt ?_)
        exact im_end 2 3 4
       ·
        refine w1 5 (wm ?_)
        refine w1 10 (wt ?_)
        exact im_end 2 3 4
    ·
     refine w2 4 8 (wq ?_) (wt ?_)
     ·
      refine w2 5 8 (wm ?_) (wt ?_)
      ·
       refine w1 8 (wt ?_)
       refine w1 9 (wt ?_)
       refine w1 10 (wt ?_)
       exact im_end 2 3 4
      ·
       refine w2 5 9 (wm ?_) (wt ?_)
       ·
        refine w1 9 (wt ?_)
        refine w1 10 (wt ?_)
        exact im_end 2 3 4
       ·
        refine w1 5 (wm ?_)
        refine w1 10 (wt ?_)
        exact im_end 2 3 4
     ·
      refine w2 4 9 (wq ?_) (wt ?_)
      ·
       refine w2 5 9 (wm ?_) (wt ?_)
       ·
        refine w1 9 (wt ?_)
        refine w1 10 (wt ?_)
        exact im_end 2 3 4
       ·
        refine w1 5 (wm ?_)
        refine w1 10 (wt ?_)
        exact im_end 2 3 4
      ·
       refine w1 4 (wq ?_)
       refine w1 5 (wm ?_)
       refine w1 10 (wt ?_)
       exact im_end 2 3 4
   ·
    refine w2 4 6 (wq ?_) (wm ?_)
    ·
     refine w2 5 6 (wm ?_) (wm ?_)
     ·
      refine w1 6 (wm ?_)
      refine w1 8 (wt ?_)
      refine w1 9 (wt ?_)
      refine w1 10 (wt ?_)
      exact im_end 4 2 3
     ·
      refine w2 5 8 (wm ?_) (wt ?_)
      ·
       refine w1 8 (wt ?_)
       refine w1 9 (wt ?_)
       refine w1 10 (wt ?_)
       exact im_end 3 2 4
      ·
       refine w2 5 9 (wm ?_) (wt ?_)
       ·
        refine w1 9 (wt ?_)
        refine w1 10 (wt ?_)
        exact im_end 3 2 4
       ·
        refine w1 5 (wm ?_)
        refine w1 10 (wt ?_)
        exact im_end 3 2 4
    ·
     refine w2 4 8 (wq ?_) (wt ?_)
     ·
      refine w2 5 8 (wm ?_) (wt ?_)
      ·
       refine w1 8 (wt ?_)
       refine w1 9 (wt ?_)
       refine w1 10 (wt ?_)
       exact im_end 3 2 4
      ·
       refine w2 5 9 (wm ?_) (wt ?_)
       ·
        refine w1 9 (wt ?_)
        refine w1 10 (wt ?_)
        exact im_end 3 2 4
       ·
        refine w1 5 (wm ?_)
        refine w1 10 (wt ?_)
        exact im_end 3 2 4
     ·
      refine w2 4 9 (wq ?_) (wt ?_)
      ·
       refine w2 5 9 (wm ?_) (wt ?_)
       ·
        refine w1 9 (wt ?_)
        refine w1 10 (wt ?_)
        exact im_end 3 2 4
       ·
        refine w1 5 (wm ?_)
        refine w1 10 (wt ?_)
        exact im_end 3 2 4
      ·
       refine w1 4 (wq ?_)
       refine w1 5 (wm ?_)
       refine w1 10 (wt ?_)
       exact im_end 3 2 4
  ·
   refine w2 3 7 (wq ?_) (wm ?_)
   ·
    refine w2 4 7 (wq ?_) (wm ?_)
    ·
     refine w2 5 7 (wm ?_) (wm ?_)
     ·
      refine w1 7 (wm ?_)
      refine w1 8 (wt ?_)
      refine w1 9 (wt ?_)
      refine w1 10 (wt ?_)
      exact im_end 2 4 3
     ·
      refine w2 5 8 (wm ?_) (wt ?_)
      ·
       refine w1 8 (wt ?_)
       refine w1 9 (wt ?_)
       refine w1 10 (wt ?_)
       exact im_end 2 3 4
      ·
       refine w2 5 9 (wm ?_) (wt ?_)
       ·
        refine w1 9 (wt ?_)
        refine w1 10 (wt ?_)
        exact im_end 2 3 4
       ·
        refine w1 5 (wm ?_)
        refine w1 10 (wt ?_)
        exact im_end 2 3 4
    ·
     refine w2 4 8 (wq ?_) (wt ?_)
     ·
      refine w2 5 8 (wm ?_) (wt ?_)
      ·
       refine w1 8 (wt ?_)
       refine w1 9 (wt ?_)
       refine w1 10 (wt ?_)
       exact im_end 2 3 4
      ·
       refine w2 5 9 (wm ?_) (wt ?_)
       ·
        refine w1 9 (wt ?_)
        refine w1 10 (wt ?_)
        exact im_end 2 3 4
       ·
        refine w1 5 (wm ?_)
        refine w1 10 (wt ?_)
        exact im_end 2 3 4
     ·
      refine w2 4 9 (wq ?_) (wt ?_)
      ·
       refine w2 5 9 (wm ?_) (wt ?_)
       ·
        refine w1 9 (wt ?_)
        refine w1 10 (wt ?_)
        exact im_end 2 3 4
       ·
        refine w1 5 (wm ?_)
        refine w1 10 (wt ?_)
        exact im_end 2 3 4
      ·
       refine w1 4 (wq ?_)
       refine w1 5 (wm ?_)
       refine w1 10 (wt ?_)
       exact im_end 2 3 4
   ·
    refine w2 3 8 (wq ?_) (wt ?_)
    ·
     refine w2 4 8 (wq ?_) (wt ?_)
     ·
      refine w2 5 8 (wm ?_) (wt ?_)
      ·
       refine w1 8 (wt ?_)
       refine w1 9 (wt ?_)
       refine w1 10 (wt ?_)
       exact im_end 2 3 4
      ·
       refine w2 5 9 (wm ?_) (wt ?_)
       ·
        refine w1 9 (wt ?_)
        refine w1 10 (wt ?_)
        exact im_end 2 3 4
       ·
        refine w1 5 (wm ?_)
        refine w1 10 (wt ?_)
        exact im_end 2 3 4
     ·
      refine w2 4 9 (wq ?_) (wt ?_)
      ·
       refine w2 5 9 (wm ?_) (wt ?_)
       ·
        refine w1 9 (wt ?_)
        refine w1 10 (wt ?_)
        exact im_end 2 3 4
       ·
        refine w1 5 (wm ?_)
        refine w1 10 (wt ?_)
        exact im_end 2 3 4
      ·
       refine w1 4 (wq ?_)
       refine w1 5 (wm ?_)
       refine w1 10 (wt ?_)
       exact im_end 2 3 4
    ·
     refine w2 3 9 (wq ?_) (wt ?_)
     ·
      refine w2 4 9 (wq ?_) (wt ?_)
      ·
       refine w2 5 9 (wm ?_) (wt ?_)
       ·
        refine w1 9 (wt ?_)
        refine w1 10 (wt ?_)
        exact im_end 2 3 4
       ·
        refine w1 5 (wm ?_)
        refine w1 10 (wt ?_)
        exact im_end 2 3 4
      ·
       refine w1 4 (wq ?_)
       refine w1 5 (wm ?_)
       refine w1 10 (wt ?_)
       exact im_end 2 3 4
     ·
      refine w1 3 (wq ?_)
      refine w1 4 (wq ?_)
      refine w1 5 (wm ?_)
      refine w1 10 (wt ?_)
      exact im_end 2 3 4
  ·
   refine w2 3 6 (wq ?_) (wm ?_)
   ·
    refine w2 4 6 (wq ?_) (wm ?_)
    ·
     refine w2 5 6 (wm ?_) (wm ?_)
     ·
      refine w1 6 (wm ?_)
      refine w1 8 (wt ?_)
      refine w1 9 (wt ?_)
      refine w1 10 (wt ?_)
      exact im_end 4 2 3
     ·
      refine w2 5 8 (wm ?_) (wt ?_)
      ·
       refine w1 8 (wt ?_)
       refine w1 9 (wt ?_)
       refine w1 10 (wt ?_)
       exact im_end 3 2 4
      ·
       refine w2 5 9 (wm ?_) (wt ?_)
       ·
        refine w1 9 (wt ?_)
        refine w1 10 (wt ?_)
        exact im_end 3 2 4
       ·
        refine w1 5 (wm ?_)
        refine w1 10 (wt ?_)
        exact im_end 3 2 4
    ·
     refine w2 4 8 (wq ?_) (wt ?_)
     ·
      refine w2 5 8 (wm ?_) (wt ?_)
      ·
       refine w1 8 (wt ?_)
       refine w1 9 (wt ?_)
       refine w1 10 (wt ?_)
       exact im_end 3 2 4
      ·
       refine w2 5 9 (wm ?_) (wt ?_)
       ·
        refine w1 9 (wt ?_)
        refine w1 10 (wt ?_)
        exact im_end 3 2 4
       ·
        refine w1 5 (wm ?_)
        refine w1 10 (wt ?_)
        exact im_end 3 2 4
     ·
      refine w2 4 9 (wq ?_) (wt ?_)
      ·
       refine w2 5 9 (wm ?_) (wt ?_)
       ·
        refine w1 9 (wt ?_)
        refine w1 10 (wt ?_)
        exact im_end 3 2 4
       ·
        refine w1 5 (wm ?_)
        refine w1 10 (wt ?_)
        exact im_end 3 2 4
      ·
       refine w1 4 (wq ?_)
       refine w1 5 (wm ?_)
       refine w1 10 (wt ?_)
       exact im_end 3 2 4
   ·
    refine w2 3 8 (wq ?_) (wt ?_)
    ·
     refine w2 4 8 (wq ?_) (wt ?_)
     ·
      refine w2 5 8 (wm ?_) (wt ?_)
      ·
       refine w1 8 (wt ?_)
       refine w1 9 (wt ?_)
       refine w1 10 (wt ?_)
       exact im_end 3 2 4
      ·
       refine w2 5 9 (wm ?_) (wt ?_)
       ·
        refine w1 9 (wt ?_)
        refine w1 10 (wt ?_)
        exact im_end 3 2 4
       ·
        refine w1 5 (wm ?_)
        refine w1 10 (wt ?_)
        exact im_end 3 2 4
     ·
      refine w2 4 9 (wq ?_) (wt ?_)
      ·
       refine w2 5 9 (wm ?_) (wt ?_)
       ·
        refine w1 9 (wt ?_)
        refine w1 10 (wt ?_)
        exact im_end 3 2 4
       ·
        refine w1 5 (wm ?_)
        refine w1 10 (wt ?_)
        exact im_end 3 2 4
      ·
       refine w1 4 (wq ?_)
       refine w1 5 (wm ?_)
       refine w1 10 (wt ?_)
       exact im_end 3 2 4
    ·
     refine w2 3 9 (wq ?_) (wt ?_)
     ·
      refine w2 4 9 (wq ?_) (wt ?_)
      ·
       refine w2 5 9 (wm ?_) (wt ?_)
       ·
        refine w1 9 (wt ?_)
        refine w1 10 (wt ?_)
        exact im_end 3 2 4
       ·
        refine w1 5 (wm ?_)
        refine w1 10 (wt ?_)
        exact im_end 3 2 4
      ·
       refine w1 4 (wq ?_)
       refine w1 5 (wm ?_)
       refine w1 10 (wt ?_)
       exact im_end 3 2 4
     ·
      refine w1 3 (wq ?_)
      refine w1 4 (wq ?_)
      refine w1 5 (wm ?_)
      refine w1 10 (wt ?_)
      exact im_end 3 2 4
 have hx16:gn (Int.toNat 0)<16:=show gn 0<16 by omega
 refine rS ?_
 refine WP.seq ?_
 refine WP.da (by kernel_rfl) 6 (by kernel_rfl) ?_
 refine WA.takes T false tok [0,1,2,3,4] (f':=3) (by kernel_rfl) (by rfl) (by rfl) (by rfl) (by exact byObl) (by rfl) (by rfl) ?_
 refine WA.all [5] (by kernel_rfl) (by simp) ?_;intro i' hi';simp only[List.mem_cons,List.not_mem_nil,or_false] at hi'
 subst hi'
 refine⟨_,_,_,rfl,by rfl,by rfl,MK.callP (l01Same_fn N hN) (by rfl) (by simp[Sc,sc_pl,sc_ds,pl_ne,ds_ne]),?_⟩
 refine WA.tail (by rfl) (by rfl) (by kernel_rfl) ?_
 refine rF ?_
 refine noPan ?_
 have hbi:BInv N (bx (gn 0)):=bx_inv hx0 hN
 refine WP.seq ?_
 refine rS ?_
 refine WP.block ?_
 refine WP.loopH (⟨λ s:Nat×(List Nat×(Nat->Bool))×(Nat->Nat->Nat)=>BInv N s.2.1/\IM N [b,w] (gn 0) s.2.1 s.2.2/\s.1<=s.2.1.1.length/\∀j,j<s.1->b (s.2.1.1.getD j 0)∈s.2.1.1/\w (s.2.1.1.getD j 0)∈s.2.1.1,λ s=>[(1,.sl 0 0 m 1),(2,.i .i64 (x:Int)),(3,.p 1 [] 0),(7,.p 2 [] 0),(8,.p 3 [] 0),(9,.sl 4 0 s.2.1.1.length 1),(10,.i .i64 (s.1:Int))],λ s=>[.ro m 1 (nmF gn),.var (ds_ N b w),.var (rwD s.2.2),.var (bl s.2.1.2),.row 2 s.2.1.1.length 1 (numsF s.2.1.1)],λ s=>bmu s.1 s.2.1⟩) ((0,bx (gn 0),up (λ _ _=>0) (gn 0) (sameF N))) (⟨hbi,⟨λ a ha=>by
  have ha:a=gn 0:=by simpa[bx] using ha
  subst ha
  simp only[up,if_pos]
  exact⟨.one,one_at hx0⟩,λ z=>by simp[bx,up],by simp[bx]⟩,Nat.zero_le _,λ j hj=>absurd hj (Nat.not_lt_zero _)⟩) (gC [0,1,2,3,4] (by repeat (first|exact trivial|(refine lC ?_ ?_;first|exact byLz|(first|exact le_var (rw_up (λ _ _=>0) (gn 0) (sameF N)).symm|exact le_var rfl)|exact byLeq)))) ?_
 rintro⟨i,⟨Q,met⟩,f⟩ ⟨hI,hM,hi,hdone⟩
 simp only at hI hM hi hdone
 dsimp only[Hd.at]
 have hQl:Q.length<=16:=by have:=hI.len;simp only at this;omega
 refine WP.seq ?_
 refine rS ?_
 refine cI (λ hc=>?_) λ hc=>?_
 ·have hi:i<Q.length:=by have:=of_decide_eq_true hc;omega
  clear hc
  have ei:addrAt 0 ((i:Nat):Int).toNat=i:=by simp[addrAt0]
  have ha:Q.getD i 0<N:=hI.get hi
  have haQ:Q.getD i 0∈Q:=getD_mem hi
  refine WP.seq (WP.block ?_)
  refine rS ?_
  rw[ei]
  generalize hqa:Q.getD i 0=a at ha haQ
  refine rS ?_
  have hba:=hb a ha
  have hwa:=hw a ha
  have hsel:∀q,sel b w q∈[b,w]:=λ q=>by
    unfold sel
    cases Nat.beq q 0
    ·
      exact .tail _ (.head _)
    ·
      exact .head _
  refine rS ?_
  refine WP.block ?_
  refine WP.loopH (⟨λ s:Nat×(List Nat×(Nat->Bool))×(Nat->Nat->Nat)=>BInv N s.2.1/\IM N [b,w] (gn 0) s.2.1 s.2.2/\((s.1=0/\s.2.1=(Q,met))\/(s.1=1/\s.2.1=bst (b a) (Q,met))\/(s.1=2/\s.2.1=bst (w a) (bst (b a) (Q,met)))),λ s=>[(1,.sl 0 0 m 1),(2,.i .i64 (x:Int)),(3,.p 1 [] 0),(7,.p 2 [] 0),(8,.p 3 [] 0),(9,.sl 4 0 s.2.1.1.length 1),(10,.i .i64 (i:Int)),(11,.i .i64 ((a:Nat):Int)),(12,.sl 5 0 2 16),(13,.i .i64 (s.1:Int))],λ s=>[.ro m 1 (nmF gn),.var (ds_ N b w),.var (rwD s.2.2),.var (bl s.2.1.2),.row 2 s.2.1.1.length 1 (numsF s.2.1.1),.row 25 2 16 (λ q=>pl (sel b w q))],λ s=>2-s.1⟩) ((0,(Q,met),f)) (⟨hI,hM,.inl ⟨rfl,rfl⟩⟩) (gC [0,1,2,3,4,5] (by repeat (first|exact trivial|(refine lC ?_ ?_;first|exact byLz|(exact le_row (Nat.le_refl _) (λ j hj=>by rcases j with _|_|j<;>first|rfl|omega))|exact byLeq)))) ?_
  rintro⟨k,⟨Q',mt⟩,f'⟩ ⟨hJ,hK,hk⟩
  simp only at hJ hK hk
  dsimp only[Hd.at]
  refine WP.seq ?_
  refine rS ?_
  refine cI (λ hc=>?_) λ hc=>?_
  ·
    have hk2:k<2:=by have:=of_decide_eq_true hc;omega
    clear hc
    have ek:addrAt 0 ((k:Nat):Int).toNat=k:=by simp[addrAt0]
    obtain⟨p,hp⟩:∃p,p=sel b w k:=⟨_,rfl⟩
    have hpm:p∈[b,w]:=hp▸hsel k
    have hpa:p a<N:=(hL p hpm).perm.lt a ha
    have haQ':a∈Q':=by
      rcases hk with⟨_,e⟩|⟨_,e⟩|⟨h,_⟩
      ·
        cases e;exact haQ
      ·
        have h1:=(bst_pre (b a) (Q,met)).subset haQ
        rw[<-e] at h1;exact h1
      ·
        omega
    have hy:(k+1=1/\bst (p a) (Q',mt)=bst (b a) (Q,met))\/(k+1=2/\bst (p a) (Q',mt)=bst (w a) (bst (b a) (Q,met))):=by
      rcases hk with⟨rfl,e⟩|⟨rfl,e⟩|⟨rfl,e⟩
      ·
        exact .inl ⟨rfl,by rw[e,hp];rfl⟩
      ·
        exact .inr ⟨rfl,by rw[e,hp];rfl⟩
      ·
        omega
    have hJ1:=hJ.bst hN hpa
    have hlen:Q'.length<=16:=by have:=hJ.len;simp only at this;omega
    refine WP.seq (WP.block ?_)
    have hs16:sel b w k a<16:=by rw[<-hp];omega
    refine rS ?_
    rw[ek, <-hp,show((a:Nat):Int).toNat=a from Int.toNat_natCast a]
    generalize hy0:p a=y at hpa hy hJ1
    have hy16:y<16:=by omega
    refine WP.seq ?_
    refine rE ?_
    cases hmy:mt y
    ·
      have e1:bst y (Q',mt)=(Q'++[y],up mt y true):=bst_new hmy
      have hK1:=hK.add hx0 haQ' hpm (by rw[hy0];exact hmy)
      rw[hy0,e1] at hK1
      rw[e1] at hy hJ1
      refine cS (λ h=>?_) λ h=>?_
      ·
        refine rS ?_
        refine WP.seq ?_
        refine WP.da (by kernel_rfl) 11 (by kernel_rfl) ?_
        refine WA.takes T false tok [0,1,2,3,4,5,6,7,8,9] (f':=3) (by kernel_rfl) (by rfl) (by rfl) (by rfl) (by exact byObl) (by rfl) (by rfl) ?_
        refine WA.all [10] (by kernel_rfl) (by simp) ?_;intro i' hi';simp only[List.mem_cons,List.not_mem_nil,or_false] at hi'
        subst hi'
        rw[ek, <-hp]
        refine⟨_,_,_,rfl,by rfl,by rfl,MK.callP (l01Then_fn (f' a) p N hN ((hK.gr a haQ').1.np hL).perm.lt) (by rfl) (by simp[Sc,sc_pl,sc_ds,pl_ne,ds_ne]),?_⟩
        refine WA.tail (by rfl) (by rfl) (by kernel_rfl) ?_
        refine rF ?_
        refine noPan ?_
        refine rE ?_
        refine rE ?_
        refine Again.next ((k+1,(Q'++[y],up mt y true),up f' y (mulF N (f' a) p))) (gC [0,1,2,3,7,5] (by repeat (first|exact trivial|(refine lC ?_ ?_;first|exact byLz|(first|exact le_row (by simp) (λ j hj=>ap_nums Q' y _ j (by simpa using hj))|exact le_var (rw_up f' y (mulF N (f' a) p)).symm)|exact byLeq)))) (⟨hJ1,hK1,.inr hy⟩) (by dsimp only;omega)
      ·
        have h:(!mt y)=false:=h;rw[hmy] at h;cases h
    ·
      have e1:bst y (Q',mt)=(Q',mt):=bst_old hmy
      rw[e1] at hy hJ1
      refine cS (λ h=>?_) λ h=>?_
      ·
        have h:(!mt y)=true:=h;rw[hmy] at h;cases h
      ·
        refine rE ?_
        refine Again.next ((k+1,(Q',mt),f')) (gC [0,1,2,3,4,5] (leC (leC (leC (leC (leC (leC leZ))))))) (⟨hJ1,hK,.inr hy⟩) (by dsimp only;omega)
  ·
    have hk:k=2/\(Q',mt)=bst (w a) (bst (b a) (Q,met)):=by
      have:=of_decide_eq_false hc
      rcases hk with⟨rfl,_⟩|⟨rfl,_⟩|h
      ·
        simp at this
      ·
        simp at this
      ·
        exact h
    obtain⟨rfl,e⟩:=hk
    have hpre1:=bst_pre (b a) (Q,met)
    have hpre2:=bst_pre (w a) (bst (b a) (Q,met))
    have hmb:b a∈(bst (b a) (Q,met)).1:=mem_bst _ _ (hM.met _)
    have hI1:=hI.bst hN hba
    have hr:=bmu_round hN hb hw hI hi
    simp only at hr
    rw[hqa, <-e] at hr
    have hmw:w a∈Q':=by
      have h1:w a∈(bst (w a) (bst (b a) (Q,met))).1:=by
        cases hmm:(bst (b a) (Q,met)).2 (w a) with
        |true=>
         have h2:mt (w a)=true:=by
          have e2:bst (w a) (bst (b a) (Q,met))=bst (b a) (Q,met):=by unfold bst at hmm ⊢;rw[hmm];rfl
          rw[e2] at e
          have e3:mt=(bst (b a) (Q,met)).2:=congrArg Prod.snd e
          rw[e3];exact hmm
         have h3:=(hK.met (w a)).1 h2
         rw[<-e];exact h3
        |false=>unfold bst at hmm ⊢;rw[hmm];simp
      rw[<-e] at h1;exact h1
    have hpQ:Q<+:Q':=by
      have h1:=hpre1.trans hpre2
      rw[<-e] at h1;exact h1
    have hbQ:b a∈Q':=by
      have h1:=hpre2.subset hmb
      rw[<-e] at h1;exact h1
    have hle:=hpQ.length_le
    refine rE ?_
    refine Again.next ((i+1,(Q',mt),f')) (gC [0,1,2,3,4] (leC (leC (leC (leC (leC leZ)))))) (⟨hr.1,hK,by simp only;omega,λ j hj=>by
      by_cases e2:j=i
      ·
        subst e2;rw[pre_getD hpQ hi,hqa];exact⟨hbQ,hmw⟩
      ·
        have:=hdone j (by simp only at hj;omega)
        rw[pre_getD hpQ (by simp only at hj;omega)]
        exact⟨hpQ.subset this.1,hpQ.subset this.2⟩⟩) (by exact hr.2)
 ·have hi:i=Q.length:=by have:=of_decide_eq_false hc;omega
  subst hi
  have hcl:Cl N b w λ z=>z∈Q:=λ z _ hz=>by
    obtain⟨j,hj,rfl⟩:=mem_getD hz
    exact hdone j hj
  have hxQ:x∈Q:=conn_all hD hx0 hM.base hcl hx
  obtain⟨hgx,hgx0⟩:=hM.gr x hxQ
  have hnx:=hgx.np hL
  have hlt:=hnx.perm.lt
  have hx16':x<16:=by omega
  refine rS ?_
  refine WP.seq ?_
  refine rS ?_
  refine WP.block ?_
  refine WP.loopH (⟨λ i:Nat=>i<=m,λ i=>[(1,.sl 0 0 m 1),(2,.i .i64 (x:Int)),(3,.p 1 [] 0),(7,.p 2 [] 0),(15,.p 3 [] 0),(16,.sl 4 0 0 1),(17,.i .i64 (i:Int))],λ i=>[.ro m 1 (nmF gn),.var (ds_ N b w),.var (rwD f),.var (bl λ z=>(mskTo (λ t=>f x (gn t)) i).testBit z),.row 2 0 1 (numsF [])],λ i=>m-i⟩) (0) (Nat.zero_le _) (gC [0,1,2,6,5] (by repeat (first|exact trivial|(refine lC ?_ ?_;first|exact byLz|(first|exact le_row (Nat.le_refl _) (λ j hj=>absurd hj (Nat.not_lt_zero _))|exact le_var (congrArg bl (funext λ z=>Nat.zero_testBit z)))|exact byLeq)))) ?_
  intro i hi
  dsimp only at hi
  dsimp only[Hd.at]
  refine WP.seq ?_
  refine rS ?_
  refine cI (λ hc=>?_) λ hc=>?_
  ·
    have hi:i<m:=by have:=of_decide_eq_true hc;omega
    clear hc
    have ei:addrAt 0 ((i:Nat):Int).toNat=i:=by simp[addrAt0]
    have hgi:=hgn i hi
    have hfi:=hlt _ hgi
    have hgi16:gn (addrAt 0 ((i:Nat):Int).toNat)<16:=by rw[ei];omega
    have hfi16:f x (gn (addrAt 0 ((i:Nat):Int).toNat))<16:=by rw[ei];omega
    have hup:=bits_up (λ t=>f x (gn t)) i
    refine WP.seq (WP.block ?_)
    refine WP.da (by kernel_rfl) 8 (by kernel_rfl) ?_
    refine WA.takes T false tok [0,1,2,3,4,5,6,7] (f':=2) (by kernel_rfl) (by rfl) (by rfl) (by rfl) (by exact byObl) (by rfl) (by rfl) ?_
    refine WA.tail (by rfl) (by rfl) (by kernel_rfl) ?_
    refine rF ?_
    refine noPan ?_
    rw[ei]
    refine rE ?_
    refine Again.next (i+1) (gC [0,1,2,3,4] (by repeat (first|exact trivial|(refine lC ?_ ?_;first|exact byLz|(exact le_var (by rw[hup];exact byVareq))|exact byLeq)))) (hi) (by dsimp only;omega)
  ·
    have hi:i=m:=by have:=of_decide_eq_false hc;omega
    subst hi
    have hS:mskTo (λ t=>f x (gn t)) i=img (f x) N (mskTo gn i):=bits_ext λ y=>by
      unfold img
      rw[msk_bit,imgTo_bit]
      constructor
      ·
        rintro⟨t,h1,h2⟩;exact⟨gn t,hgn t h1,msk_bit.2 ⟨t,h1,rfl⟩,h2⟩
      ·
        rintro⟨z,_,h2,h3⟩
        obtain⟨t,h4,rfl⟩:=msk_bit.1 h2
        exact⟨t,h4,h3⟩
    have hO:Orb N [b,w] (mskTo gn i) (mskTo (λ t=>f x (gn t)) i):=⟨f x,hgx,hS⟩
    have hxS:(mskTo (λ t=>f x (gn t)) i).testBit x=true:=msk_bit.2 ⟨0,hm0,hgx0⟩
    generalize mskTo (λ t=>f x (gn t)) i=S at hO hxS ⊢
    refine WP.seq ?_
    refine rS ?_
    refine WP.block ?_
    refine WP.loopH (⟨λ s:Nat×List Nat=>s.1<=N/\s.2=bitsL S s.1,λ s=>[(3,.p 1 [] 0),(15,.p 2 [] 0),(16,.sl 3 0 s.2.length 1),(18,.i .i64 (s.1:Int))],λ s=>[.ro i 1 (nmF gn),.var (ds_ N b w),.var (bl λ z=>S.testBit z),.row 2 s.2.length 1 (numsF s.2)],λ s=>N-s.1⟩) ((0,[])) (⟨Nat.zero_le _,rfl⟩) (gC [0,1,3,4] (leC (leC (leC (leC leZ))))) ?_
    rintro⟨z,l⟩ ⟨hz,hl⟩
    simp only at hz hl
    dsimp only[Hd.at]
    have hbl:l.length<=z:=hl▸bits_len S z
    refine WP.seq ?_
    refine rS ?_
    refine cI (λ hc=>?_) λ hc=>?_
    ·
      have hz:z<N:=by have:=of_decide_eq_true hc;omega
      clear hc
      refine WP.seq (WP.block ?_)
      refine WP.seq ?_
      refine rE ?_
      cases hs:S.testBit z
      ·
        have e1:=bits_miss hs
        refine cS (λ h=>?_) λ h=>?_
        ·have h:S.testBit z=true:=h;rw[hs] at h;cases h
        ·refine rE ?_
         refine Again.next ((z+1,l)) (gC [0,1,2,3] (leC (leC (leC (leC leZ))))) (⟨hz,by simp only;rw[e1,hl]⟩) (by dsimp only;omega)
      ·
        have e1:=bits_hit hs
        refine cS (λ h=>?_) λ h=>?_
        ·refine rE ?_
         refine rE ?_
         refine Again.next ((z+1,l++[z])) (gC [0,1,2,5] (by repeat (first|exact trivial|(refine lC ?_ ?_;first|exact byLz|(exact le_row (by simp) (λ j hj=>ap_nums l z _ j (by simpa using hj)))|exact byLeq)))) (⟨hz,by simp only;rw[e1,hl]⟩) (by dsimp only;omega)
        ·have h:S.testBit z=false:=h;rw[hs] at h;cases h
    ·
      have hz:z=N:=by have:=of_decide_eq_false hc;omega
      subst hz
      subst hl
      refine rS ?_
      exact WP.ret (Ends.newE [0,3] (⟨S,rfl,rfl,hO,hxS⟩) (.inl rfl) (by rfl) (by exact byObl) (leC (leC leZ)) rfl rfl (rfl) (sc_sl rfl))
end Go.Proofs.YthjnmlpibafbnaaGreat
