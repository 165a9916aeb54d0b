import Derived.Test.YthjnmlpibafbnaaGreatX122
namespace Go.Proofs.YthjnmlpibafbnaaGreat
open Go.RowKit DM
set_option linter.unusedSimpArgs false
set_option linter.unusedVariables false
set_option maxRecDepth 100000
set_option maxHeartbeats 1000000
set_option maxHeartbeats 20000000 in
theorem reg15l{N:Nat}{b w:Nat->Nat}{E:List (Nat->Nat)}{D:List (List Nat)}{Cn own:List Nat}{i a:Nat}(hCl:Cn.length=D.length)(hol:own.length<=16)(hDl:D.length<=5000)(ha:a<D.length):∀{Q:Exit->St->Prop},WP Tryz.prog Tryz.f23.ntmps 0 (regF Tryz.f23 15) (Then (λ s'=>Ghost 0 s' ⟨lst [(1,.p 0 [] 0),(6,.sl 1 0 E.length 16),(7,.sl 2 0 D.length 1),(8,.sl 3 0 D.length 1),(9,.i .i64 (i:Int)),(11,.i .i64 ((a:Nat):Int)),(12,.sl 4 0 (1+(D.length-a)) 1),(13,.sl 5 0 (1+(D.length-a)) 1)],[.var (ds_ N b w),.ro E.length 16 (rowP E),.row 30 D.length 1 (rowsR D),.row 2 D.length 1 (numsF Cn),.row 30 (1+(D.length-a)) 1 (rowsR (own::D.drop a)),.row 2 (1+(D.length-a)) 1 (numsF (1::Cn.drop a))]⟩) Q) ⟨lst [(1,.p 0 [] 0),(6,.sl 1 0 E.length 16),(7,.sl 2 0 D.length 1),(8,.sl 3 0 D.length 1),(9,.i .i64 (i:Int)),(10,.sl 4 0 own.length 1),(11,.i .i64 ((a:Nat):Int))],[.var (ds_ N b w),.ro E.length 16 (rowP E),.row 30 D.length 1 (rowsR D),.row 2 D.length 1 (numsF Cn),.ro own.length 1 (numsF own)]⟩:=by
 have hSc:∀(k e n:Nat) (L:List (Nat->Nat)),Sc k (.ow e n 16 (rowP L)):=λ k _ _ L j _=>sc_row k L j
 conv in (regF _ _)=>whnf
 have hLn:1+(D.length-a)=1+(D.length-a):=rfl
 have hV:(if 0<1+(D.length-a) then some (Dat.sl 4 0 own.length 1) else none)=some (Dat.sl 4 0 own.length 1):=if_pos (by omega)
 intro Q
 refine WP.da (by kernel_rfl) 5 (by kernel_rfl) ?_
 refine wd [0,2,3,7,8] 8 ?_
 refine w4 1 4 6 9 (wm ?_) (wsl a ?_) (wm ?_) (wsl a ?_)
 ·
  refine w3 4 6 9 (wsl a ?_) (wm ?_) (wsl a ?_)
  ·
   refine w3 5 6 9 (wan (rowsR D) ?_) (wm ?_) (wsl a ?_)
   ·
    refine w2 6 9 (wm ?_) (wsl a ?_)
    ·
     refine w1 9 (wsl a ?_)
     refine w1 10 (wak (numsF Cn) ?_)
     refine wd [11,12] 0 ?_
     exact e15 6 8 hLn
    ·
     refine w1 6 (wm ?_)
     refine w1 10 (wak (numsF Cn) ?_)
     refine wd [11,12] 0 ?_
     exact e15 6 8 hLn
   ·
    refine w2 5 9 (wan (rowsR D) ?_) (wsl a ?_)
    ·
     refine w1 9 (wsl a ?_)
     refine w1 10 (wak (numsF Cn) ?_)
     refine wd [11,12] 0 ?_
     exact e15 7 8 hLn
    ·
     refine w1 5 (wan (rowsR D) ?_)
     refine w1 10 (wak (numsF Cn) ?_)
     refine wd [11,12] 0 ?_
     exact e15 7 8 hLn
   ·
    refine w2 5 6 (wan (rowsR D) ?_) (wm ?_)
    ·
     refine w1 6 (wm ?_)
     refine w1 10 (wak (numsF Cn) ?_)
     refine wd [11,12] 0 ?_
     exact e15 6 8 hLn
    ·
     refine w1 5 (wan (rowsR D) ?_)
     refine w1 10 (wak (numsF Cn) ?_)
     refine wd [11,12] 0 ?_
     exact e15 7 8 hLn
  ·
   refine w2 4 9 (wsl a ?_) (wsl a ?_)
   ·
    refine w2 5 9 (wan (rowsR D) ?_) (wsl a ?_)
    ·
     refine w1 9 (wsl a ?_)
     refine w1 10 (wak (numsF Cn) ?_)
     refine wd [11,12] 0 ?_
     exact e15 7 8 hLn
    ·
     refine w1 5 (wan (rowsR D) ?_)
     refine w1 10 (wak (numsF Cn) ?_)
     refine wd [11,12] 0 ?_
     exact e15 7 8 hLn
   ·
    refine w1 4 (wsl a ?_)
    refine w1 5 (wan (rowsR D) ?_)
    refine w1 10 (wak (numsF Cn) ?_)
    refine wd [11,12] 0 ?_
    exact e15 7 8 hLn
  ·
   refine w2 4 6 (wsl a ?_) (wm ?_)
   ·
    refine w2 5 6 (wan (rowsR D) ?_) (wm ?_)
    ·
     refine w1 6 (wm ?_)
     refine w1 10 (wak (numsF Cn) ?_)
     refine wd [11,12] 0 ?_
     exact e15 6 8 hLn
    ·
     refine w1 5 (wan (rowsR D) ?_)
     refine w1 10 (wak (numsF Cn) ?_)
     refine wd [11,12] 0 ?_
     exact e15 7 8 hLn
   ·
    refine w1 4 (wsl a ?_)
    refine w1 5 (wan (rowsR D) ?_)
    refine w1 10 (wak (numsF Cn) ?_)
    refine wd [11,12] 0 ?_
    exact e15 7 8 hLn
 ·
  refine w3 1 6 9 (wm ?_) (wm ?_) (wsl a ?_)
  ·
   refine w3 5 6 9 (wan (rowsR D) ?_) (wm ?_) (wsl a ?_)
   ·
    refine w2 6 9 (wm ?_) (wsl a ?_)
    ·
     refine w1 9 (wsl a ?_)
     refine w1 10 (wak (numsF Cn) ?_)
     refine wd [11,12] 0 ?_
     exact e15 6 8 hLn
    ·
     refine w1 6 (wm ?_)
     refine w1 10 (wak (numsF Cn) ?_)
     refine wd [11,12] 0 ?_
     exact e15 6 8 hLn
   ·
    refine w2 5 9 (wan (rowsR D) ?_) (wsl a ?_)
    ·
     refine w1 9 (wsl a ?_)
     refine w1 10 (wak (numsF Cn) ?_)
     refine wd [11,12] 0 ?_
     exact e15 7 8 hLn
    ·
     refine w1 5 (wan (rowsR D) ?_)
     refine w1 10 (wak (numsF Cn) ?_)
     refine wd [11,12] 0 ?_
     exact e15 7 8 hLn
   ·
    refine w2 5 6 (wan (rowsR D) ?_) (wm ?_)
    ·
     refine w1 6 (wm ?_)
     refine w1 10 (wak (numsF Cn) ?_)
     refine wd [11,12] 0 ?_
     exact e15 6 8 hLn
    ·
     refine w1 5 (wan (rowsR D) ?_)
     refine w1 10 (wak (numsF Cn) ?_)
     refine wd [11,12] 0 ?_
     exact e15 7 8 hLn
  ·
   refine w2 1 9 (wm ?_) (wsl a ?_)
   ·
    refine w2 5 9 (wan (rowsR D) ?_) (wsl a ?_)
    ·
     refine w1 9 (wsl a ?_)
     refine w1 10 (wak (numsF Cn) ?_)
     refine wd [11,12] 0 ?_
     exact e15 7 8 hLn
    ·
     refine w1 5 (wan (rowsR D) ?_)
     refine w1 10 (wak (numsF Cn) ?_)
     refine wd [11,12] 0 ?_
     exact e15 7 8 hLn
   ·
    refine w1 1 (wm ?_)
    refine w1 5 (wan (rowsR D) ?_)
    refine w1 10 (wak (numsF Cn) ?_)
    refine wd [11,12] 0 ?_
    exact e15 7 8 hLn
  ·
   refine w2 1 6 (wm ?_) (wm ?_)
   ·
    refine w2 5 6 (wan (rowsR D) ?_) (wm ?_)
    ·
     refine w1 6 (wm ?_)
     refine w1 10 (wak (numsF Cn) ?_)
     refine wd [11,12] 0 ?_
     exact e15 6 8 hLn
    ·
     refine w1 5 (wan (rowsR D) ?_)
     refine w1 10 (wak (numsF Cn) ?_)
     refine wd [11,12] 0 ?_
     exact e15 7 8 hLn
   ·
    refine w1 1 (wm ?_)
    refine w1 5 (wan (rowsR D) ?_)
    refine w1 10 (wak (numsF Cn) ?_)
    refine wd [11,12] 0 ?_
    exact e15 7 8 hLn
 ·
  refine w3 1 4 9 (wm ?_) (wsl a ?_) (wsl a ?_)
  ·
   refine w2 4 9 (wsl a ?_) (wsl a ?_)
   ·
    refine w2 5 9 (wan (rowsR D) ?_) (wsl a ?_)
    ·
     refine w1 9 (wsl a ?_)
     refine w1 10 (wak (numsF Cn) ?_)
     refine wd [11,12] 0 ?_
     exact e15 7 8 hLn
    ·
     refine w1 5 (wan (rowsR D) ?_)
     refine w1 10 (wak (numsF Cn) ?_)
     refine wd [11,12] 0 ?_
     exact e15 7 8 hLn
   ·
    refine w1 4 (wsl a ?_)
    refine w1 5 (wan (rowsR D) ?_)
    refine w1 10 (wak (numsF Cn) ?_)
    refine wd [11,12] 0 ?_
    exact e15 7 8 hLn
  ·
   refine w2 1 9 (wm ?_) (wsl a ?_)
   ·
    refine w2 5 9 (wan (rowsR D) ?_) (wsl a ?_)
    ·
     refine w1 9 (wsl a ?_)
     refine w1 10 (wak (numsF Cn) ?_)
     refine wd [11,12] 0 ?_
     exact e15 7 8 hLn
    ·
     refine w1 5 (wan (rowsR D) ?_)
     refine w1 10 (wak (numsF Cn) ?_)
     refine wd [11,12] 0 ?_
     exact e15 7 8 hLn
   ·
    refine w1 1 (wm ?_)
    refine w1 5 (wan (rowsR D) ?_)
    refine w1 10 (wak (numsF Cn) ?_)
    refine wd [11,12] 0 ?_
    exact e15 7 8 hLn
  ·
   refine w2 1 4 (wm ?_) (wsl a ?_)
   ·
    refine w1 4 (wsl a ?_)
    refine w1 5 (wan (rowsR D) ?_)
    refine w1 10 (wak (numsF Cn) ?_)
    refine wd [11,12] 0 ?_
    exact e15 7 8 hLn
   ·
    refine w1 1 (wm ?_)
    refine w1 5 (wan (rowsR D) ?_)
    refine w1 10 (wak (numsF Cn) ?_)
    refine wd [11,12] 0 ?_
    exact e15 7 8 hLn
 ·
  refine w3 1 4 6 (wm ?_) (wsl a ?_) (wm ?_)
  ·
   refine w2 4 6 (wsl a ?_) (wm ?_)
   ·
    refine w2 5 6 (wan (rowsR D) ?_) (wm ?_)
    ·
     refine w1 6 (wm ?_)
     refine w1 10 (wak (numsF Cn) ?_)
     refine wd [11,12] 0 ?_
     exact e15 6 8 hLn
    ·
     refine w1 5 (wan (rowsR D) ?_)
     refine w1 10 (wak (numsF Cn) ?_)
     refine wd [11,12] 0 ?_
     exact e15 7 8 hLn
   ·
    refine w1 4 (wsl a ?_)
    refine w1 5 (wan (rowsR D) ?_)
    refine w1 10 (wak (numsF Cn) ?_)
    refine wd [11,12] 0 ?_
    exact e15 7 8 hLn
  ·
   refine w2 1 6 (wm ?_) (wm ?_)
   ·
    refine w2 5 6 (wan (rowsR D) ?_) (wm ?_)
    ·
     refine w1 6 (wm ?_)
     refine w1 10 (wak (numsF Cn) ?_)
     refine wd [11,12] 0 ?_
     exact e15 6 8 hLn
    ·
     refine w1 5 (wan (rowsR D) ?_)
     refine w1 10 (wak (numsF Cn) ?_)
     refine wd [11,12] 0 ?_
     exact e15 7 8 hLn
   ·
    refine w1 1 (wm ?_)
    refine w1 5 (wan (rowsR D) ?_)
    refine w1 10 (wak (numsF Cn) ?_)
    refine wd [11,12] 0 ?_
    exact e15 7 8 hLn
  ·
   refine w2 1 4 (wm ?_) (wsl a ?_)
   ·
    refine w1 4 (wsl a ?_)
    refine w1 5 (wan (rowsR D) ?_)
    refine w1 10 (wak (numsF Cn) ?_)
    refine wd [11,12] 0 ?_
    exact e15 7 8 hLn
   ·
    refine w1 1 (wm ?_)
    refine w1 5 (wan (rowsR D) ?_)
    refine w1 10 (wak (numsF Cn) ?_)
    refine wd [11,12] 0 ?_
    exact e15 7 8 hLn
set_option maxHeartbeats 20000000 in
theorem reg15e{N:Nat}{b w:Nat->Nat}{E:List (Nat->Nat)}{D:List (List Nat)}{Cn own:List Nat}{i:Nat}(hCl:Cn.length=D.length)(hol:own.length<=16)(hDl:D.length<=5000):∀{Q:Exit->St->Prop},WP Tryz.prog Tryz.f23.ntmps 0 (regF Tryz.f23 15) (Then (λ s'=>Ghost 0 s' ⟨lst [(1,.p 0 [] 0),(6,.sl 1 0 E.length 16),(7,.sl 2 0 D.length 1),(8,.sl 3 0 D.length 1),(9,.i .i64 (i:Int)),(11,.i .i64 ((D.length:Nat):Int)),(12,.sl 4 0 (1+(D.length-D.length)) 1),(13,.sl 5 0 (1+(D.length-D.length)) 1)],[.var (ds_ N b w),.ro E.length 16 (rowP E),.row 30 D.length 1 (rowsR D),.row 2 D.length 1 (numsF Cn),.row 30 (1+(D.length-D.length)) 1 (rowsR (own::D.drop D.length)),.row 2 (1+(D.length-D.length)) 1 (numsF (1::Cn.drop D.length))]⟩) Q) ⟨lst [(1,.p 0 [] 0),(6,.sl 1 0 E.length 16),(7,.sl 2 0 D.length 1),(8,.sl 3 0 D.length 1),(9,.i .i64 (i:Int)),(10,.sl 4 0 own.length 1),(11,.i .i64 ((D.length:Nat):Int))],[.var (ds_ N b w),.ro E.length 16 (rowP E),.row 30 D.length 1 (rowsR D),.row 2 D.length 1 (numsF Cn),.ro own.length 1 (numsF own)]⟩:=by
 have hSc:∀(k e n:Nat) (L:List (Nat->Nat)),Sc k (.ow e n 16 (rowP L)):=λ k _ _ L j _=>sc_row k L j
 conv in (regF _ _)=>whnf
 have hLn:1+(D.length-D.length)=1+0:=by omega
 have hLen:=hLn
 intro Q
 refine WP.da (by kernel_rfl) 5 (by kernel_rfl) ?_
 refine wd [0,2,3,7,8] 8 ?_
 refine w4 1 4 6 9 (wm ?_) (wse (rowsR D) ?_) (wm ?_) (wse (numsF Cn) ?_)
 ·
  refine w3 4 6 9 (wse (rowsR D) ?_) (wm ?_) (wse (numsF Cn) ?_)
  ·
   refine w3 5 6 9 (wan _ ?_) (wm ?_) (wse (numsF Cn) ?_)
   ·
    refine w2 6 9 (wm ?_) (wse (numsF Cn) ?_)
    ·
     refine w1 9 (wse (numsF Cn) ?_)
     refine w1 10 (wak _ ?_)
     refine wd [11,12] 0 ?_
     exact e15 7 10 hLn
    ·
     refine w1 6 (wm ?_)
     refine w1 10 (wak _ ?_)
     refine wd [11,12] 0 ?_
     exact e15 7 10 hLn
   ·
    refine w2 5 9 (wan _ ?_) (wse (numsF Cn) ?_)
    ·
     refine w1 9 (wse (numsF Cn) ?_)
     refine w1 10 (wak _ ?_)
     refine wd [11,12] 0 ?_
     exact e15 8 10 hLn
    ·
     refine w1 5 (wan _ ?_)
     refine w1 10 (wak _ ?_)
     refine wd [11,12] 0 ?_
     exact e15 9 10 hLn
   ·
    refine w2 5 6 (wan _ ?_) (wm ?_)
    ·
     refine w1 6 (wm ?_)
     refine w1 10 (wak _ ?_)
     refine wd [11,12] 0 ?_
     exact e15 8 10 hLn
    ·
     refine w1 5 (wan _ ?_)
     refine w1 10 (wak _ ?_)
     refine wd [11,12] 0 ?_
     exact e15 9 10 hLn
  ·
   refine w2 4 9 (wse (rowsR D) ?_) (wse (numsF Cn) ?_)
   ·
    refine w2 5 9 (wan _ ?_) (wse (numsF Cn) ?_)
    ·
     refine w1 9 (wse (numsF Cn) ?_)
     refine w1 10 (wak _ ?_)
     refine wd [11,12] 0 ?_
     exact e15 8 10 hLn
    ·
     refine w1 5 (wan _ ?_)
     refine w1 10 (wak _ ?_)
     refine wd [11,12] 0 ?_
     exact e15 9 10 hLn
   ·
    refine w1 4 (wse (rowsR D) ?_)
    refine w1 5 (wan _ ?_)
    refine w1 10 (wak _ ?_)
    refine wd [11,12] 0 ?_
    exact e15 9 10 hLn
  ·
   refine w2 4 6 (wse (rowsR D) ?_) (wm ?_)
   ·
    refine w2 5 6 (wan _ ?_) (wm ?_)
    ·
     refine w1 6 (wm ?_)
     refine w1 10 (wak _ ?_)
     refine wd [11,12] 0 ?_
     exact e15 8 10 hLn
    ·
     refine w1 5 (wan _ ?_)
     refine w1 10 (wak _ ?_)
     refine wd [11,12] 0 ?_
     exact e15 9 10 hLn
   ·
    refine w1 4 (wse (rowsR D) ?_)
    refine w1 5 (wan _ ?_)
    refine w1 10 (wak _ ?_)
    refine wd [11,12] 0 ?_
    exact e15 9 10 hLn
 ·
  refine w3 1 6 9 (wm ?_) (wm ?_) (wse (numsF Cn) ?_)
  ·
   refine w3 5 6 9 (wan _ ?_) (wm ?_) (wse (numsF Cn) ?_)
   ·
    refine w2 6 9 (wm ?_) (wse (numsF Cn) ?_)
    ·
     refine w1 9 (wse (numsF Cn) ?_)
     refine w1 10 (wak _ ?_)
     refine wd [11,12] 0 ?_
     exact e15 7 10 hLn
    ·
     refine w1 6 (wm ?_)
     refine w1 10 (wak _ ?_)
     refine wd [11,12] 0 ?_
     exact e15 7 10 hLn
   ·
    refine w2 5 9 (wan _ ?_) (wse (numsF Cn) ?_)
    ·
     refine w1 9 (wse (numsF Cn) ?_)
     refine w1 10 (wak _ ?_)
     refine wd [11,12] 0 ?_
     exact e15 8 10 hLn
    ·
     refine w1 5 (wan _ ?_)
     refine w1 10 (wak _ ?_)
     refine wd [11,12] 0 ?_
     exact e15 9 10 hLn
   ·
    refine w2 5 6 (wan _ ?_) (wm ?_)
    ·
     refine w1 6 (wm ?_)
     refine w1 10 (wak _ ?_)
     refine wd [11,12] 0 ?_
     exact e15 8 10 hLn
    ·
     refine w1 5 (wan _ ?_)
     refine w1 10 (wak _ ?_)
     refine wd [11,12] 0 ?_
     exact e15 9 10 hLn
  ·
   refine w2 1 9 (wm ?_) (wse (numsF Cn) ?_)
   ·
    refine w2 5 9 (wan _ ?_) (wse (numsF Cn) ?_)
    ·
     refine w1 9 (wse (numsF Cn) ?_)
     refine w1 10 (wak _ ?_)
     refine wd [11,12] 0 ?_
     exact e15 8 10 hLn
    ·
     refine w1 5 (wan _ ?_)
     refine w1 10 (wak _ ?_)
     refine wd [11,12] 0 ?_
     exact e15 9 10 hLn
   ·
    refine w1 1 (wm ?_)
    refine w1 5 (wan _ ?_)
    refine w1 10 (wak _ ?_)
    refine wd [11,12] 0 ?_
    exact e15 9 10 hLn
  ·
   refine w2 1 6 (wm ?_) (wm ?_)
   ·
    refine w2 5 6 (wan _ ?_) (wm ?_)
    ·
     refine w1 6 (wm ?_)
     refine w1 10 (wak _ ?_)
     refine wd [11,12] 0 ?_
     exact e15 8 10 hLn
    ·
     refine w1 5 (wan _ ?_)
     refine w1 10 (wak _ ?_)
     refine wd [11,12] 0 ?_
     exact e15 9 10 hLn
   ·
    refine w1 1 (wm ?_)
    refine w1 5 (wan _ ?_)
    refine w1 10 (wak _ ?_)
    refine wd [11,12] 0 ?_
    exact e15 9 10 hLn
 ·
  refine w3 1 4 9 (wm ?_) (wse (rowsR D) ?_) (wse (numsF Cn) ?_)
  ·
   refine w2 4 9 (wse (rowsR D) ?_) (wse (numsF Cn) ?_)
   ·
    refine w2 5 9 (wan _ ?_) (wse (numsF Cn) ?_)
    ·
     refine w1 9 (wse (numsF Cn) ?_)
     refine w1 10 (wak _ ?_)
     refine wd [11,12] 0 ?_
     exact e15 8 10 hLn
    ·
     refine w1 5 (wan _ ?_)
     refine w1 10 (wak _ ?_)
     refine wd [11,12] 0 ?_
     exact e15 9 10 hLn
   ·
    refine w1 4 (wse (rowsR D) ?_)
    refine w1 5 (wan _ ?_)
    refine w1 10 (wak _ ?_)
    refine wd [11,12] 0 ?_
    exact e15 9 10 hLn
  ·
   refine w2 1 9 (wm ?_) (wse (numsF Cn) ?_)
   ·
    refine w2 5 9 (wan _ ?_) (wse (numsF Cn) ?_)
    ·
     refine w1 9 (wse (numsF Cn) ?_)
     refine w1 10 (wak _ ?_)
     refine wd [11,12] 0 ?_
     exact e15 8 10 hLn
    ·
     refine w1 5 (wan _ ?_)
     refine w1 10 (wak _ ?_)
     refine wd [11,12] 0 ?_
     exact e15 9 10 hLn
   ·
    refine w1 1 (wm ?_)
    refine w1 5 (wan _ ?_)
    refine w1 10 (wak _ ?_)
    refine wd [11,12] 0 ?_
    exact e15 9 10 hLn
  ·
   refine w2 1 4 (wm ?_) (wse (rowsR D) ?_)
   ·
    refine w1 4 (wse (rowsR D) ?_)
    refine w1 5 (wan _ ?_)
    refine w1 10 (wak _ ?_)
    refine wd [11,12] 0 ?_
    exact e15 9 10 hLn
   ·
    refine w1 1 (wm ?_)
    refine w1 5 (wan _ ?_)
    refine w1 10 (wak _ ?_)
    refine wd [11,12] 0 ?_
    exact e15 9 10 hLn
 ·
  refine w3 1 4 6 (wm ?_) (wse (rowsR D) ?_) (wm ?_)
  ·
   refine w2 4 6 (wse (rowsR D) ?_) (wm ?_)
   ·
    refine w2 5 6 (wan _ ?_) (wm ?_)
    ·
     refine w1 6 (wm ?_)
     refine w1 10 (wak _ ?_)
     refine wd [11,12] 0 ?_
     exact e15 8 10 hLn
    ·
     refine w1 5 (wan _ ?_)
     refine w1 10 (wak _ ?_)
     refine wd [11,12] 0 ?_
     exact e15 9 10 hLn
   ·
    refine w1 4 (wse (rowsR D) ?_)
    refine w1 5 (wan _ ?_)
    refine w1 10 (wak _ ?_)
    refine wd [11,12] 0 ?_
    exact e15 9 10 hLn
  ·
   refine w2 1 6 (wm ?_) (wm ?_)
   ·
    refine w2 5 6 (wan _ ?_) (wm ?_)
    ·
     refine w1 6 (wm ?_)
     refine w1 10 (wak _ ?_)
     refine wd [11,12] 0 ?_
     exact e15 8 10 hLn
    ·
     refine w1 5 (wan _ ?_)
     refine w1 10 (wak _ ?_)
     refine wd [11,12] 0 ?_
     exact e15 9 10 hLn
   ·
    refine w1 1 (wm ?_)
    refine w1 5 (wan _ ?_)
    refine w1 10 (wak _ ?_)
    refine wd [11,12] 0 ?_
    exact e15 9 10 hLn
  ·
   refine w2 1 4 (wm ?_) (wse (rowsR D) ?_)
   ·
    refine w1 4 (wse (rowsR D) ?_)
    refine w1 5 (wan _ ?_)
    refine w1 10 (wak _ ?_)
    refine wd [11,12] 0 ?_
    exact e15 9 10 hLn
   ·
    refine w1 1 (wm ?_)
    refine w1 5 (wan _ ?_)
    refine w1 10 (wak _ ?_)
    refine wd [11,12] 0 ?_
    exact e15 9 10 hLn
end Go.Proofs.YthjnmlpibafbnaaGreat
