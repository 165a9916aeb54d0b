import Derived.Test.YthjnmlpibafbnaaGreatX147
namespace Go.Proofs.YthjnmlpibafbnaaGreat
open Go.RowKit DM
set_option linter.unusedSimpArgs false
set_option linter.unusedVariables false
set_option maxRecDepth 100000
set_option maxHeartbeats 1000000
set_option maxHeartbeats 16000000
def cs:List (Bool×Nat×Dat)->List (Nat×Dat)
 |[]=>[]
 |(c,t,d)::l=>bif c then(t,d)::cs l else cs l
theorem ren_t3{τ:Nat->Nat}{a b c a' b' c':Dat}(h1:renD τ a a')(h2:renD τ b b')(h3:renD τ c c'):renD τ (t3 a b c) (t3 a' b' c'):=
 ⟨_,rfl,λ i _=>by
  rcases i with _|_|_|i
  ·exact h1
  ·exact h2
  ·exact h3
  ·exact h3⟩
theorem q23{y:Int}(h0:0<=y)(h1:y<24):0<=y.tdiv 23/\y.tdiv 23<=1:=by rw[Int.tdiv_eq_ediv_of_nonneg h0];omega
theorem q39{y:Int}(h0:0<=y)(h1:y<40):0<=y.tdiv 39/\y.tdiv 39<=1:=by rw[Int.tdiv_eq_ediv_of_nonneg h0];omega
theorem drawBs(len:Nat)(g:Nat->Nat)(hg:∀j,g j<256)(hl:len<=4294967296):
  FnS Tryz.prog 15 [.sl 0 0 len 1] [.ro len 1 (byF g)] λ r m'=>∃(n:Int) (b w:Nat->Nat),r=ds_ n b w/\DrB n b w/\m'=[.ro len 1 (byF g)]:=by
 have hSc:∀(k a:Nat) (h:Int),Sc k (srcD len g a h):=λ k a h=>sc_src k len g a h
 have sc_ch:=hSc
 have hfr:=l01From_fn len g hg hl
 refine FnS.intoE T tok Tryz.func15 (by rfl) rfl rfl rfl (by simp) ?_
 refine rS ?_
 refine WP.rw ?_
 refine rU 1 ?_
 refine WPL.callE [0] (hfr) (leC leZ) (by rfl) (by rfl) (by exact byArgs) (by rfl) (by rfl) (by simp[Sc,sc_pl,sc_ds]) ?_
 rintro _ _ ⟨rfl,h1,rfl⟩
 refine⟨⟨λ d hd=>by cases hd;exact λ _ _=>trivial,λ d hd=>by cases hd;exact sc_src _ _ _ _ _,trivial⟩,.p 2 [] 0,rfl,sc_p rfl,?_⟩
 refine WPL.mem (by rfl) ?_
 have hso:=l03Draw_fn len g hg 0 h1 (Nat.zero_le _) hl
 refine WPL.callE [2] (hso) (leC leZ) (by rfl) (by rfl) (by exact byArgs) (by rfl) (by rfl) (by simp[Sc,sc_pl,sc_ds]) ?_
 rintro _ _ ⟨n,b,w,a2,h2,rfl,hn1,hn2,hb,hw,ha2,rfl⟩
 have hdr:DrB n b w:=⟨hn1,hn2,hb,hw⟩
 refine⟨⟨λ d hd=>by cases hd;exact sc_src _ _ _ _ _,trivial⟩,ds_ n b w,⟨rfl,sc_ds _ _ _ _⟩,sc_ds _ _ _ _,?_⟩
 refine WPL.mem (by rfl) ?_
 refine rF ?_
 refine WP.ghost (gC [0,1] (leC (leC leZ)) (l:=[(2,.p 1 [] 0)]) (m':=[.ro len 1 (byF g),.var (ds_ n b w)])) ?_
 exact WP.ret (Ends.newE [0] (⟨n,b,w,rfl,hdr,rfl⟩) (.inl rfl) (by rfl) (by exact byObl) (leC leZ) rfl rfl (⟨rfl,sc_ds _ _ _ _⟩) (sc_ds _ _ _ _))
theorem drawEt(len:Nat)(g:Nat->Nat)(hg:∀j,g j<256)(hl:len<=4294967296):
  FnS Tryz.prog 21 [.sl 0 0 len 1] [.ro len 1 (byF g)] λ r m'=>∃(n:Int) (b w:Nat->Nat),r=ds_ n b w/\DrB n b w/\m'=[.ro len 1 (byF g)]:=by
 have hSc:∀(k a:Nat) (h:Int),Sc k (srcD len g a h):=λ k a h=>sc_src k len g a h
 have sc_ch:=hSc
 have hfr:=l01From_fn len g hg hl
 refine FnS.intoE T tok Tryz.func21 (by rfl) rfl rfl rfl (by simp) ?_
 refine rS ?_
 refine WP.rw ?_
 refine rU 1 ?_
 refine WPL.callE [0] (hfr) (leC leZ) (by rfl) (by rfl) (by exact byArgs) (by rfl) (by rfl) (by simp[Sc,sc_pl,sc_ds]) ?_
 rintro _ _ ⟨rfl,h1,rfl⟩
 refine⟨⟨λ d hd=>by cases hd;exact λ _ _=>trivial,λ d hd=>by cases hd;exact sc_src _ _ _ _ _,trivial⟩,.p 2 [] 0,rfl,sc_p rfl,?_⟩
 refine WPL.mem (by rfl) ?_
 have hso:=l03Draw_fn len g hg 0 h1 (Nat.zero_le _) hl
 refine WPL.callE [2] (hso) (leC leZ) (by rfl) (by rfl) (by exact byArgs) (by rfl) (by rfl) (by simp[Sc,sc_pl,sc_ds]) ?_
 rintro _ _ ⟨n,b,w,a2,h2,rfl,hn1,hn2,hb,hw,ha2,rfl⟩
 have hdr:DrB n b w:=⟨hn1,hn2,hb,hw⟩
 refine⟨⟨λ d hd=>by cases hd;exact sc_src _ _ _ _ _,trivial⟩,ds_ n b w,⟨rfl,sc_ds _ _ _ _⟩,sc_ds _ _ _ _,?_⟩
 refine WPL.mem (by rfl) ?_
 refine rF ?_
 refine WP.ghost (gC [0,1] (leC (leC leZ)) (l:=[(2,.p 1 [] 0)]) (m':=[.ro len 1 (byF g),.var (ds_ n b w)])) ?_
 exact WP.ret (Ends.newE [0] (⟨n,b,w,rfl,hdr,rfl⟩) (.inl rfl) (by rfl) (by exact byObl) (leC leZ) rfl rfl (⟨rfl,sc_ds _ _ _ _⟩) (sc_ds _ _ _ _))
def boF(len:Nat)(g:Nat->Nat)(n:Int)(b w:Nat->Nat)(p:Nat)(l0 l3 l15:Bool)(a:Nat)(h:Int)(y1 y2 y3 y4 y5:Int):List (Nat×Dat):=cs [(true,2,.p 1 [] 0),(true,5,.p 3 [] 0),(true,6,.p 2 [] 0),(l0&&Nat.blt p 6,11,ds_ n b w),(Nat.blt p 2,12,.p 3 [] 0),(!l3,13,.p 2 [0] 0),(l3&&Nat.blt p 1,14,.i .i64 n),(Nat.blt p 1,15,.p 3 [] 0),(!l3&&Nat.ble 1 p,17,.i .i64 (y1.tdiv 23)),(l3&&Nat.ble 1 p&&Nat.blt p 2,18,.i .i64 (n+y1.tdiv 23)),(Nat.ble 2 p&&Nat.blt p 3,19,.i .i64 y2),(Nat.blt p 3,20,.p 3 [] 0),(Nat.ble 3 p&&Nat.blt p 7,23,.i .i64 (y2-y3.tdiv 39)),(Nat.blt p 5,24,.p 3 [] 0),(!l15,25,.p 2 [0] 0),(l15&&Nat.blt p 4,26,.i .i64 n),(Nat.blt p 4,27,.p 3 [] 0),(!l15&&Nat.ble 4 p,29,.i .i64 (y4.tdiv 23)),(l15&&Nat.ble 4 p&&Nat.blt p 5,30,.i .i64 (n+y4.tdiv 23)),(Nat.ble 5 p&&Nat.blt p 8,31,.i .i64 y5),(Nat.ble 7 p,3,.i .i64 (y2-y3.tdiv 39)),(Nat.ble 8 p,4,.i .i64 y5)]
def boL(p:Nat)(l0 l3 l15:Bool):Array Bool:=#[l0,true,true,l3,true,Nat.ble 1 p,Nat.ble 1 p,l3&&Nat.ble 1 p,Nat.ble 2 p,true,Nat.ble 3 p,Nat.ble 3 p,Nat.ble 3 p,true,true,l15,true,Nat.ble 4 p,Nat.ble 4 p,l15&&Nat.ble 4 p,Nat.ble 5 p,Nat.ble 6 p,Nat.ble 7 p,Nat.ble 8 p]
def boR(len:Nat)(g:Nat->Nat)(n:Int)(b w:Nat->Nat)(e:Bool)(a:Nat)(h:Int):List Root:=[.ro len 1 (byF g),.var (bif e then ds_ n b w else ds_ 0 (λ _=>0) (λ _=>0)),.var (ds_ n b w),.var (srcD len g a h)]
def boT(len:Nat)(g:Nat->Nat)(n:Int)(b w:Nat->Nat)(p:Nat)(l0 l3 l15:Bool)(a:Nat)(h:Int)(y1 y2 y3 y4 y5:Int):St:=⟨lst (boF len g n b w p l0 l3 l15 a h y1 y2 y3 y4 y5),boR len g n b w (Nat.ble 6 p) a h⟩
abbrev boI(len a:Nat)(y1 y2 y3 y4:Int):Prop:=a<=len/\(0<=y1/\y1<24)/\(0<=y2/\y2<=100)/\(0<=y3/\y3<40)/\(0<=y4/\y4<24)
theorem boS{N K fuel:Nat}{ops:Array Oper}{Q:Exit->St->Prop}{listed:Array Bool}{s:St}(len:Nat)(g:Nat->Nat)(n:Int)(b w:Nat->Nat)(f0 p:Nat)(l0 l3 l15:Bool)
  (h:∀a h y1 y2 y3 y4 y5,boI len a y1 y2 y3 y4->(0<=y1.tdiv 23/\y1.tdiv 23<=1)->(0<=y4.tdiv 23/\y4.tdiv 23<=1)->(0<=y3.tdiv 39/\y3.tdiv 39<=1)->WA Tryz.prog N K ops Q 5 f0 (boL p l0 l3 l15) (boT len g n b w p l0 l3 l15 a h y1 y2 y3 y4 y5))
  (k:(∀a h y1 y2 y3 y4 y5,boI len a y1 y2 y3 y4->WA Tryz.prog N K ops Q 5 f0 (boL p l0 l3 l15) (boT len g n b w p l0 l3 l15 a h y1 y2 y3 y4 y5))->WA Tryz.prog N K ops Q 5 fuel listed s):WA Tryz.prog N K ops Q 5 fuel listed s:=
 k λ a h' y1 y2 y3 y4 y5 c=>h a h' y1 y2 y3 y4 y5 c (q23 c.2.1.1 c.2.1.2) (q23 c.2.2.2.2.1 c.2.2.2.2.2) (q39 c.2.2.2.1.1 c.2.2.2.1.2)
theorem boC{N fuel:Nat}{Q:Exit->St->Prop}{ops:Array Oper}{listed listed':Array Bool}{fr:Nat->Dat}{m m':List Root}{l:List (Nat×Dat)}(k:WA Tryz.prog N 1 ops Q 5 fuel listed' ⟨lst l,m'⟩)(e:listed'=listed:=by rfl)(h:LeAll 1 m [0,1,2,3] m':=by exact leC (leC (leC (leC leZ))))(hl:SlotsR (tauOf [0,1,2,3]) m'.length fr l:=by exact bySlots):WA Tryz.prog N 1 ops Q 5 fuel listed ⟨fr,m⟩:=by
 subst e;exact wC [0,1,2,3] l m' h k
theorem drawBo(len:Nat)(g:Nat->Nat)(hg:∀j,g j<256)(hl:len<=4294967296):
  FnS Tryz.prog 5 [.sl 0 0 len 1] [.ro len 1 (byF g)] λ r m'=>∃(n:Int) (b w:Nat->Nat) (x y:Int),r=t3 (ds_ n b w) (.i .i64 x) (.i .i64 y)/\DrB n b w/\m'=[.ro len 1 (byF g)]:=by
 have hSc:∀(k a:Nat) (h:Int),Sc k (srcD len g a h):=λ k a h=>sc_src k len g a h
 have sc_ch:=hSc
 have hfr:=l01From_fn len g hg hl
 refine FnS.intoE T tok Tryz.func5 (by rfl) rfl rfl rfl (by simp) ?_
 refine rS ?_
 refine WP.rw ?_
 refine rU 1 ?_
 refine WPL.callE [0] (hfr) (leC leZ) (by rfl) (by rfl) (by exact byArgs) (by rfl) (by rfl) (by simp[Sc,sc_pl,sc_ds]) ?_
 rintro _ _ ⟨rfl,h1,rfl⟩
 refine⟨⟨λ d hd=>by cases hd;exact λ _ _=>trivial,λ d hd=>by cases hd;exact sc_src _ _ _ _ _,trivial⟩,.p 2 [] 0,rfl,sc_p rfl,?_⟩
 refine WPL.mem (by rfl) ?_
 refine rF ?_
 refine WP.rw ?_
 refine rU 1 ?_
 have hso:=l03Draw_fn len g hg 0 h1 (Nat.zero_le _) hl
 refine WPL.callE [2] (hso) (leC leZ) (by rfl) (by rfl) (by exact byArgs) (by rfl) (by rfl) (by simp[Sc,sc_pl,sc_ds]) ?_
 rintro _ _ ⟨n,b,w,a2,h2,rfl,hn1,hn2,hb,hw,ha2,rfl⟩
 have hdr:DrB n b w:=⟨hn1,hn2,hb,hw⟩
 refine⟨⟨λ d hd=>by cases hd;exact sc_src _ _ _ _ _,trivial⟩,ds_ n b w,⟨rfl,sc_ds _ _ _ _⟩,sc_ds _ _ _ _,?_⟩
 refine WPL.mem (by rfl) ?_
 refine rF ?_
 refine WP.ghost (gC [0,1,3,2] (leC (leC (leC (leC leZ)))) (l:=[(2,.p 1 [] 0),(5,.p 3 [] 0),(6,.p 2 [] 0)]) (m':=[.ro len 1 (byF g),.var (ds_ 0 (λ _=>0) (λ _=>0)),.var (ds_ n b w),.var (srcD len g a2 h2)])) ?_
 refine WP.seq ?_
 refine WP.da (by kernel_rfl) 5 (by kernel_rfl) ?_
 refine boS len g n b w 0 8 true true true (λ a1 h1 y1 y2 y3 y4 y5 c q1 q4 q3=>?_) λ hS0=>?_
 ·refine WA.end rfl (by kernel_rfl) (noPan ?_)
  exact WP.ret (Ends.newE [0] (⟨n,b,w,_,_,rfl,hdr,rfl⟩) (.inl rfl) (by rfl) (by exact byObl) (leC leZ) rfl rfl (ren_t3 ⟨rfl,sc_ds _ _ _ _⟩ ⟨rfl,trivial⟩ ⟨rfl,trivial⟩) (sc_t3 (sc_ds _ _ _ _) trivial trivial))
 refine boS len g n b w 1 7 true true true (λ a1 h1 y1 y2 y3 y4 y5 c q1 q4 q3=>?_) λ hS1=>?_
 ·refine w1 23 ?_
  refine wt ?_
  exact boC (hS0 a1 h1 y1 y2 y3 y4 y5 c)
 refine boS len g n b w 2 6 true true true (λ a1 h1 y1 y2 y3 y4 y5 c q1 q4 q3=>?_) λ hS2=>?_
 ·refine w1 22 ?_
  refine wt ?_
  exact boC (hS1 a1 h1 y1 y2 y3 y4 y5 c)
 refine boS len g n b w 3 5 true true true (λ a1 h1 y1 y2 y3 y4 y5 c q1 q4 q3=>?_) λ hS3=>?_
 ·refine w1 21 ?_
  refine wt ?_
  exact boC (hS2 a1 h1 y1 y2 y3 y4 y5 c)
 refine boS len g n b w 4 4 true true true (λ a1 h1 y1 y2 y3 y4 y5 c q1 q4 q3=>?_) λ hS4=>?_
 ·refine w1 20 ?_
  refine wNy (boR len g n b w false) (l01Next_fn len g hg a1 h1 (n+y4.tdiv 23) c.1 hl) ?_
  intro y a4 h4 y0 yb ha4
  exact boC (hS3 a4 h4 y1 y2 y3 y4 y ⟨ha4,c.2⟩)
 refine boS len g n b w 7 3 true true true (λ a1 h1 y1 y2 y3 y4 y5 c q1 q4 q3=>?_) λ hS5=>?_
 ·refine w1 17 ?_
  refine wNy (boR len g n b w false) (l01Next_fn len g hg a1 h1 24 c.1 hl) ?_
  intro y a4 h4 y0 yb ha4
  have q:=q23 y0 (by omega)
  refine wd [18,19] 4 ?_
  exact boC (hS4 a4 h4 y1 y2 y3 y y5 ⟨ha4,c.2.1,c.2.2.1,c.2.2.2.1,⟨y0,by omega⟩⟩)
 refine boS len g n b w 6 4 true true false (λ a1 h1 y1 y2 y3 y4 y5 c q1 q4 q3=>?_) λ hS6=>?_
 ·refine w1 15 ?_
  refine wq ?_
  refine wd [19] 4 ?_
  exact boC (hS4 a1 h1 y1 y2 y3 y4 y5 c)
 refine boS len g n b w 8 3 true true false (λ a1 h1 y1 y2 y3 y4 y5 c q1 q4 q3=>?_) λ hS7=>?_
 ·refine w2 15 17 ?_ ?_
  ·refine wq ?_
   exact boC (hS5 a1 h1 y1 y2 y3 y4 y5 c)
  ·refine wNy (boR len g n b w false) (l01Next_fn len g hg a1 h1 24 c.1 hl) ?_
   intro y a4 h4 y0 yb ha4
   have q:=q23 y0 (by omega)
   refine wd [18] 6 ?_
   exact boC (hS6 a4 h4 y1 y2 y3 y y5 ⟨ha4,c.2.1,c.2.2.1,c.2.2.2.1,⟨y0,by omega⟩⟩)
 refine boS len g n b w 10 2 true true true (λ a1 h1 y1 y2 y3 y4 y5 c q1 q4 q3=>?_) λ hS8=>?_
 ·refine w1 10 ?_
  refine wNy (boR len g n b w false) (l01Next_fn len g hg a1 h1 40 c.1 hl) ?_
  intro y a4 h4 y0 yb ha4
  have q:=q39 y0 (by omega)
  refine wd [11,12] 7 ?_
  exact boC (hS5 a4 h4 y1 y2 y y4 y5 ⟨ha4,c.2.1,c.2.2.1,⟨y0,by omega⟩,c.2.2.2.2⟩)
 refine boS len g n b w 11 2 true true false (λ a1 h1 y1 y2 y3 y4 y5 c q1 q4 q3=>?_) λ hS9=>?_
 ·refine w2 10 15 ?_ ?_
  ·refine wNy (boR len g n b w false) (l01Next_fn len g hg a1 h1 40 c.1 hl) ?_
   intro y a4 h4 y0 yb ha4
   have q:=q39 y0 (by omega)
   refine wd [11,12] 8 ?_
   exact boC (hS7 a4 h4 y1 y2 y y4 y5 ⟨ha4,c.2.1,c.2.2.1,⟨y0,by omega⟩,c.2.2.2.2⟩)
  ·refine wq ?_
   exact boC (hS8 a1 h1 y1 y2 y3 y4 y5 c)
 refine boS len g n b w 11 1 true true true (λ a1 h1 y1 y2 y3 y4 y5 c q1 q4 q3=>?_) λ hS10=>?_
 ·refine w1 8 ?_
  refine wNy (boR len g n b w false) (l01Next_fn len g hg a1 h1 (n+y1.tdiv 23) c.1 hl) ?_
  intro y a4 h4 y0 yb ha4
  exact boC (hS8 a4 h4 y1 y y3 y4 y5 ⟨ha4,c.2.1,⟨y0,by omega⟩,c.2.2.2⟩)
 refine boS len g n b w 12 1 true true false (λ a1 h1 y1 y2 y3 y4 y5 c q1 q4 q3=>?_) λ hS11=>?_
 ·refine w2 8 15 ?_ ?_
  ·refine wNy (boR len g n b w false) (l01Next_fn len g hg a1 h1 (n+y1.tdiv 23) c.1 hl) ?_
   intro y a4 h4 y0 yb ha4
   exact boC (hS9 a4 h4 y1 y y3 y4 y5 ⟨ha4,c.2.1,⟨y0,by omega⟩,c.2.2.2⟩)
  ·refine wq ?_
   exact boC (hS10 a1 h1 y1 y2 y3 y4 y5 c)
 refine boS len g n b w 14 0 true true true (λ a1 h1 y1 y2 y3 y4 y5 c q1 q4 q3=>?_) λ hS12=>?_
 ·refine w1 5 ?_
  refine wNy (boR len g n b w false) (l01Next_fn len g hg a1 h1 24 c.1 hl) ?_
  intro y a4 h4 y0 yb ha4
  have q:=q23 y0 (by omega)
  refine wd [6,7] 11 ?_
  exact boC (hS10 a4 h4 y y2 y3 y4 y5 ⟨ha4,⟨y0,by omega⟩,c.2.2⟩)
 refine boS len g n b w 15 0 true true false (λ a1 h1 y1 y2 y3 y4 y5 c q1 q4 q3=>?_) λ hS13=>?_
 ·refine w2 5 15 ?_ ?_
  ·refine wNy (boR len g n b w false) (l01Next_fn len g hg a1 h1 24 c.1 hl) ?_
   intro y a4 h4 y0 yb ha4
   have q:=q23 y0 (by omega)
   refine wd [6,7] 12 ?_
   exact boC (hS11 a4 h4 y y2 y3 y4 y5 ⟨ha4,⟨y0,by omega⟩,c.2.2⟩)
  ·refine wq ?_
   exact boC (hS12 a1 h1 y1 y2 y3 y4 y5 c)
 refine boS len g n b w 13 1 true false true (λ a1 h1 y1 y2 y3 y4 y5 c q1 q4 q3=>?_) λ hS14=>?_
 ·refine w1 3 ?_
  refine wq ?_
  refine wd [7] 11 ?_
  exact boC (hS10 a1 h1 y1 y2 y3 y4 y5 c)
 refine boS len g n b w 14 1 true false false (λ a1 h1 y1 y2 y3 y4 y5 c q1 q4 q3=>?_) λ hS15=>?_
 ·refine w2 3 15 ?_ ?_
  ·refine wq ?_
   refine wd [7] 12 ?_
   exact boC (hS11 a1 h1 y1 y2 y3 y4 y5 c)
  ·refine wq ?_
   exact boC (hS14 a1 h1 y1 y2 y3 y4 y5 c)
 refine boS len g n b w 15 0 true false true (λ a1 h1 y1 y2 y3 y4 y5 c q1 q4 q3=>?_) λ hS16=>?_
 ·refine w2 3 5 ?_ ?_
  ·refine wq ?_
   exact boC (hS12 a1 h1 y1 y2 y3 y4 y5 c)
  ·refine wNy (boR len g n b w false) (l01Next_fn len g hg a1 h1 24 c.1 hl) ?_
   intro y a4 h4 y0 yb ha4
   have q:=q23 y0 (by omega)
   refine wd [6] 13 ?_
   exact boC (hS14 a4 h4 y y2 y3 y4 y5 ⟨ha4,⟨y0,by omega⟩,c.2.2⟩)
 refine boS len g n b w 16 0 true false false (λ a1 h1 y1 y2 y3 y4 y5 c q1 q4 q3=>?_) λ hS17=>?_
 ·refine w3 3 5 15 ?_ ?_ ?_
  ·refine wq ?_
   exact boC (hS13 a1 h1 y1 y2 y3 y4 y5 c)
  ·refine wNy (boR len g n b w false) (l01Next_fn len g hg a1 h1 24 c.1 hl) ?_
   intro y a4 h4 y0 yb ha4
   have q:=q23 y0 (by omega)
   refine wd [6] 14 ?_
   exact boC (hS15 a4 h4 y y2 y3 y4 y5 ⟨ha4,⟨y0,by omega⟩,c.2.2⟩)
  ·refine wq ?_
   exact boC (hS16 a1 h1 y1 y2 y3 y4 y5 c)
 refine boS len g n b w 4 5 false true true (λ a1 h1 y1 y2 y3 y4 y5 c q1 q4 q3=>?_) λ hS18=>?_
 ·refine w1 0 ?_
  refine wq ?_
  exact boC (hS3 a1 h1 y1 y2 y3 y4 y5 c)
 refine boS len g n b w 5 4 false true true (λ a1 h1 y1 y2 y3 y4 y5 c q1 q4 q3=>?_) λ hS19=>?_
 ·refine w2 0 20 ?_ ?_
  ·refine wq ?_
   exact boC (hS4 a1 h1 y1 y2 y3 y4 y5 c)
  ·refine wNy (boR len g n b w false) (l01Next_fn len g hg a1 h1 (n+y4.tdiv 23) c.1 hl) ?_
   intro y a4 h4 y0 yb ha4
   exact boC (hS18 a4 h4 y1 y2 y3 y4 y ⟨ha4,c.2⟩)
 refine boS len g n b w 8 3 false true true (λ a1 h1 y1 y2 y3 y4 y5 c q1 q4 q3=>?_) λ hS20=>?_
 ·refine w2 0 17 ?_ ?_
  ·refine wq ?_
   exact boC (hS5 a1 h1 y1 y2 y3 y4 y5 c)
  ·refine wNy (boR len g n b w false) (l01Next_fn len g hg a1 h1 24 c.1 hl) ?_
   intro y a4 h4 y0 yb ha4
   have q:=q23 y0 (by omega)
   refine wd [18,19] 5 ?_
   exact boC (hS19 a4 h4 y1 y2 y3 y y5 ⟨ha4,c.2.1,c.2.2.1,c.2.2.2.1,⟨y0,by omega⟩⟩)
 refine boS len g n b w 7 4 false true false (λ a1 h1 y1 y2 y3 y4 y5 c q1 q4 q3=>?_) λ hS21=>?_
 ·refine w2 0 15 ?_ ?_
  ·refine wq ?_
   exact boC (hS6 a1 h1 y1 y2 y3 y4 y5 c)
  ·refine wq ?_
   refine wd [19] 5 ?_
   exact boC (hS19 a1 h1 y1 y2 y3 y4 y5 c)
 refine boS len g n b w 9 3 false true false (λ a1 h1 y1 y2 y3 y4 y5 c q1 q4 q3=>?_) λ hS22=>?_
 ·refine w3 0 15 17 ?_ ?_ ?_
  ·refine wq ?_
   exact boC (hS7 a1 h1 y1 y2 y3 y4 y5 c)
  ·refine wq ?_
   exact boC (hS20 a1 h1 y1 y2 y3 y4 y5 c)
  ·refine wNy (boR len g n b w false) (l01Next_fn len g hg a1 h1 24 c.1 hl) ?_
   intro y a4 h4 y0 yb ha4
   have q:=q23 y0 (by omega)
   refine wd [18] 7 ?_
   exact boC (hS21 a4 h4 y1 y2 y3 y y5 ⟨ha4,c.2.1,c.2.2.1,c.2.2.2.1,⟨y0,by omega⟩⟩)
 refine boS len g n b w 11 2 false true true (λ a1 h1 y1 y2 y3 y4 y5 c q1 q4 q3=>?_) λ hS23=>?_
 ·refine w2 0 10 ?_ ?_
  ·refine wq ?_
   exact boC (hS8 a1 h1 y1 y2 y3 y4 y5 c)
  ·refine wNy (boR len g n b w false) (l01Next_fn len g hg a1 h1 40 c.1 hl) ?_
   intro y a4 h4 y0 yb ha4
   have q:=q39 y0 (by omega)
   refine wd [11,12] 8 ?_
   exact boC (hS20 a4 h4 y1 y2 y y4 y5 ⟨ha4,c.2.1,c.2.2.1,⟨y0,by omega⟩,c.2.2.2.2⟩)
 refine boS len g n b w 12 2 false true false (λ a1 h1 y1 y2 y3 y4 y5 c q1 q4 q3=>?_) λ hS24=>?_
 ·refine w3 0 10 15 ?_ ?_ ?_
  ·refine wq ?_
   exact boC (hS9 a1 h1 y1 y2 y3 y4 y5 c)
  ·refine wNy (boR len g n b w false) (l01Next_fn len g hg a1 h1 40 c.1 hl) ?_
   intro y a4 h4 y0 yb ha4
   have q:=q39 y0 (by omega)
   refine wd [11,12] 9 ?_
   exact boC (hS22 a4 h4 y1 y2 y y4 y5 ⟨ha4,c.2.1,c.2.2.1,⟨y0,by omega⟩,c.2.2.2.2⟩)
  ·refine wq ?_
   exact boC (hS23 a1 h1 y1 y2 y3 y4 y5 c)
 refine boS len g n b w 12 1 false true true (λ a1 h1 y1 y2 y3 y4 y5 c q1 q4 q3=>?_) λ hS25=>?_
 ·refine w2 0 8 ?_ ?_
  ·refine wq ?_
   exact boC (hS10 a1 h1 y1 y2 y3 y4 y5 c)
  ·refine wNy (boR len g n b w false) (l01Next_fn len g hg a1 h1 (n+y1.tdiv 23) c.1 hl) ?_
   intro y a4 h4 y0 yb ha4
   exact boC (hS23 a4 h4 y1 y y3 y4 y5 ⟨ha4,c.2.1,⟨y0,by omega⟩,c.2.2.2⟩)
 refine boS len g n b w 13 1 false true false (λ a1 h1 y1 y2 y3 y4 y5 c q1 q4 q3=>?_) λ hS26=>?_
 ·refine w3 0 8 15 ?_ ?_ ?_
  ·refine wq ?_
   exact boC (hS11 a1 h1 y1 y2 y3 y4 y5 c)
  ·refine wNy (boR len g n b w false) (l01Next_fn len g hg a1 h1 (n+y1.tdiv 23) c.1 hl) ?_
   intro y a4 h4 y0 yb ha4
   exact boC (hS24 a4 h4 y1 y y3 y4 y5 ⟨ha4,c.2.1,⟨y0,by omega⟩,c.2.2.2⟩)
  ·refine wq ?_
   exact boC (hS25 a1 h1 y1 y2 y3 y4 y5 c)
 refine boS len g n b w 15 0 false true true (λ a1 h1 y1 y2 y3 y4 y5 c q1 q4 q3=>?_) λ hS27=>?_
 ·refine w2 0 5 ?_ ?_
  ·refine wq ?_
   exact boC (hS12 a1 h1 y1 y2 y3 y4 y5 c)
  ·refine wNy (boR len g n b w false) (l01Next_fn len g hg a1 h1 24 c.1 hl) ?_
   intro y a4 h4 y0 yb ha4
   have q:=q23 y0 (by omega)
   refine wd [6,7] 12 ?_
   exact boC (hS25 a4 h4 y y2 y3 y4 y5 ⟨ha4,⟨y0,by omega⟩,c.2.2⟩)
 refine boS len g n b w 16 0 false true false (λ a1 h1 y1 y2 y3 y4 y5 c q1 q4 q3=>?_) λ hS28=>?_
 ·refine w3 0 5 15 ?_ ?_ ?_
  ·refine wq ?_
   exact boC (hS13 a1 h1 y1 y2 y3 y4 y5 c)
  ·refine wNy (boR len g n b w false) (l01Next_fn len g hg a1 h1 24 c.1 hl) ?_
   intro y a4 h4 y0 yb ha4
   have q:=q23 y0 (by omega)
   refine wd [6,7] 13 ?_
   exact boC (hS26 a4 h4 y y2 y3 y4 y5 ⟨ha4,⟨y0,by omega⟩,c.2.2⟩)
  ·refine wq ?_
   exact boC (hS27 a1 h1 y1 y2 y3 y4 y5 c)
 refine boS len g n b w 14 1 false false true (λ a1 h1 y1 y2 y3 y4 y5 c q1 q4 q3=>?_) λ hS29=>?_
 ·refine w2 0 3 ?_ ?_
  ·refine wq ?_
   exact boC (hS14 a1 h1 y1 y2 y3 y4 y5 c)
  ·refine wq ?_
   refine wd [7] 12 ?_
   exact boC (hS25 a1 h1 y1 y2 y3 y4 y5 c)
 refine boS len g n b w 15 1 false false false (λ a1 h1 y1 y2 y3 y4 y5 c q1 q4 q3=>?_) λ hS30=>?_
 ·refine w3 0 3 15 ?_ ?_ ?_
  ·refine wq ?_
   exact boC (hS15 a1 h1 y1 y2 y3 y4 y5 c)
  ·refine wq ?_
   refine wd [7] 13 ?_
   exact boC (hS26 a1 h1 y1 y2 y3 y4 y5 c)
  ·refine wq ?_
   exact boC (hS29 a1 h1 y1 y2 y3 y4 y5 c)
 refine boS len g n b w 16 0 false false true (λ a1 h1 y1 y2 y3 y4 y5 c q1 q4 q3=>?_) λ hS31=>?_
 ·refine w3 0 3 5 ?_ ?_ ?_
  ·refine wq ?_
   exact boC (hS16 a1 h1 y1 y2 y3 y4 y5 c)
  ·refine wq ?_
   exact boC (hS27 a1 h1 y1 y2 y3 y4 y5 c)
  ·refine wNy (boR len g n b w false) (l01Next_fn len g hg a1 h1 24 c.1 hl) ?_
   intro y a4 h4 y0 yb ha4
   have q:=q23 y0 (by omega)
   refine wd [6] 14 ?_
   exact boC (hS29 a4 h4 y y2 y3 y4 y5 ⟨ha4,⟨y0,by omega⟩,c.2.2⟩)
 refine boS len g n b w 17 0 false false false (λ a1 h1 y1 y2 y3 y4 y5 c q1 q4 q3=>?_) λ hS32=>?_
 ·refine w4 0 3 5 15 ?_ ?_ ?_ ?_
  ·refine wq ?_
   exact boC (hS17 a1 h1 y1 y2 y3 y4 y5 c)
  ·refine wq ?_
   exact boC (hS28 a1 h1 y1 y2 y3 y4 y5 c)
  ·refine wNy (boR len g n b w false) (l01Next_fn len g hg a1 h1 24 c.1 hl) ?_
   intro y a4 h4 y0 yb ha4
   have q:=q23 y0 (by omega)
   refine wd [6] 15 ?_
   exact boC (hS30 a4 h4 y y2 y3 y4 y5 ⟨ha4,⟨y0,by omega⟩,c.2.2⟩)
  ·refine wq ?_
   exact boC (hS31 a1 h1 y1 y2 y3 y4 y5 c)
 refine wd [1,2,4,9,13,14,16] 17 ?_
 exact boC (hS32 a2 h2 0 0 0 0 0 ⟨ha2,by decide,by decide,by decide,by decide⟩)
end Go.Proofs.YthjnmlpibafbnaaGreat
