/-
  Lemmas for a law's proof, put together from several texts. No conditions of their own.
-/
import Derived.Test.YtllmbcigmimgoaaGreatZB16
import Derived.Test.YtllmbcigmimgoaaGreatZB01
import Derived.Deep.Slices
import Derived.Deep.Fields
import Derived.ChangeSame
set_option maxRecDepth 100000
set_option maxHeartbeats 20000000
set_option linter.all false
namespace Go.Proofs.YtllmbcigmimgoaaGreat
open _root_.Go.Proofs.Tryz
open _root_.Go renaming World->acL,Value->acK
open _root_.Go.Act renaming put->afD
open _root_.Go.Ending renaming returned->ab4
open _root_.Go.Obj renaming cells->ach
open _root_.Go.RowKit renaming Below->acN
open _root_.Go.Value renaming pointer->adj,agg->adA
open _root_.List renaming getElem?_eq_none->ac7
namespace lw
open RowKit mgr ft pl ino po df
variable{aA:Nat}{w w':acL}{q:Nat}{K:Nat->Prop}
def QL (i:PI.bF)(h6:i.direct.length=6)(aF n:Int):Calls prog 13 #[adj none,dS i,vi aF,vi n] w λe w'=>e=ab4 (.tuple #[.slice none 0 0,vi 3])/\acN w.heap.size w w':=by
 obtain⟨kd,ln,sz,dl,sg,db⟩:=i;obtain⟨d0,d1,d2,d3,d4,d5,hdl⟩:=six (l:=dl) h6;subst hdl;clear h6;simp only[dS,j4];have HB:Hid (acN w.heap.size w (w.alloc (ach #[vi kd,vi ln,vi sz,vi d0,vi d1,vi d2,vi d3,vi d4,vi d5,vi sg,vi db] 29))):=az ax;go_in;go_wp2;go_ret2;exact⟨rfl,HB.o⟩
def acC:aH (um DF.none_.z 384 1)=2:=ah
def NV:aH DF.none_.z=0:=nL
def YT:kV DF.none_ 384 [5] 9=(0,DF.none_.put 384 [5]):=by
 have c:¬(aH DF.none_.z<aH (um DF.none_.z (384:Int).toNat [5].length)/\(9:Int)<(aH (um DF.none_.z (384:Int).toNat [5].length):Int)-aH DF.none_.z):=by
  show ¬(aH DF.none_.z<aH (um DF.none_.z 384 1)/\(9:Int)<(aH (um DF.none_.z 384 1):Int)-aH DF.none_.z);rw[acC,NV];omega
 unfold kV;rw[if_neg ag,if_neg ag,if_neg c];rfl
def NW (F:DF):outT F 0=(0,F.cut 0):=by
 unfold outT;rw[if_neg ag,if_neg ag];rfl
variable{k:Nat}
def JN {p':Po}{is:Nat->PI.bF}{Fs:Nat->DF}{i':PI.bF}{F:DF}(hfl:Fl p' 3 (bW is k i') (fsUp Fs k (F.cut 0))):JM i':=by
 have h:=YR hfl.fam k (λn=>by
  rw[<-hfl.z k n,fsUp_self,wS])
 rwa[aS]at h
def NY {i:PI.bF}(hb:JM i)(h1:i.aL=1)(h2:i.links=k)(h3:i.size=0):i=rI k:=by
 obtain⟨kd,ln,sz,dl,sg,db⟩:=i;obtain⟨b1,b2,b3⟩:=hb;dsimp only at b1 b2 b3 h1 h2 h3;subst b1 b2 b3 h1 h2 h3;rfl
def five_row (w:acL):dx aA (w.alloc (ach #[vb 5] 5)) (some ⟨w.heap.size,0,none⟩) [5]:=by
 refine⟨⟨λx hx=>by simp at hx;omega,.inr ⟨w.heap.size,0,rfl,λi hi=>?_⟩⟩,.inr ⟨w.heap.size,0,rfl,Safe.byte (aD.new w _ _)⟩⟩;have:i=0:=by simp at hi;omega
 subst this;exact(aD.new w _ _).cell 0
def YU (w:acL):(binOp .eql 29 (adA #[vi 1,vi 0,vi 0,vi 0,vi 0,vi 0,vi 0,vi 0,vi 0,vi 0,vi 0]) (adA #[vi 1,vi 0,vi 0,vi 0,vi 0,vi 0,vi 0,vi 0,vi 0,vi 0,vi 0])).run prog w=.ok (.bool true) w:=ah
def jB (w:acL):Calls prog 10 #[] w λe w'=>e=ab4 (.bool true)/\acN w.heap.size w w':=by
 go_in;go_wp2_with fail;refine(fresh_any w.heap.size w aj 9 aa).mono ?_;rintro e w1 ⟨q,K,rfl,hq,hb1,_⟩;have HQ:=az hq;have HB1:=az hb1;clear hq hb1;have Wo:Hid (acN w1.heap.size w1 (w1.alloc (ach #[vb 5] 5))):=az ax;have lF:=az (EL aa (HQ.o.old Wo.o) (Z:=λ_=>False) (λ_ e=>e.elim));have JZ:Hid (Calls prog 12 #[ptr q,adA #[vi 1,vi 0,vi 0,vi 0,vi 0,vi 0,vi 0,vi 0,vi 0,vi 0,vi 0],vi 384,.slice (some ⟨w1.heap.size,0,none⟩) 1 1] (w1.alloc (ach #[vb 5] 5)) (kW w.heap.size (w1.alloc (ach #[vb 5] 5)) q K (rP 9) rI (λ_=>DF.none_) 0 (0,DF.none_.put 384 [5]))):=az (by
  have h:=p9 lF.o 0 aa 384 (some ⟨w1.heap.size,0,none⟩) [5] 1 (five_row w1) ag
  have e1:(rP 9).aK=9:=rfl
  rw[e1,YT]at h
  exact h)
 have HL1:Hid (w.heap.size<=w1.heap.size):=az HB1.o.size;go_wp2_with fail;refine JZ.o.mono ?_;rintro e2 w2 ⟨i',K2,p2,rfl,Jq,hcs⟩;have HG2:=az Jq;rcases hcs with⟨h,_⟩|⟨_,hfl,hi,hd⟩;exact absurd rfl h;have h6:i'.direct.length=6:=by have h:=hfl.fam.six 0;rwa[aS]at h
 have D6:=az hfl;have HI:=az hi;have HD:=az hd;have HS:Hid (i'.size=385):=az hi.2.2;obtain⟨kd,ln,sz,dl,sg,db⟩:=i';obtain⟨d0,d1,d2,d3,d4,d5,hdl⟩:=six (l:=dl) h6;subst hdl;have hsz:sz=385:=HS.o;subst hsz;simp only[dS,j4];have qF:Hid (aD (w2.alloc (ach #[vi kd,vi ln,vi (385:Nat),vi d0,vi d1,vi d2,vi d3,vi d4,vi d5,vi sg,vi db] 29)) w2.heap.size 29 #[vi kd,vi ln,vi (385:Nat),vi d0,vi d1,vi d2,vi d3,vi d4,vi d5,vi sg,vi db]):=az (aD.new _ _ _);have HB3:Hid (acN w2.heap.size w2 (w2.alloc (ach #[vi kd,vi ln,vi (385:Nat),vi d0,vi d1,vi d2,vi d3,vi d4,vi d5,vi sg,vi db] 29))):=az ax
 clear Jq hfl hi hd h6 JZ lF HS;have Q7:Hid (Calls prog 23 #[ptr q,adA #[vi kd,vi ln,vi (385:Nat),vi d0,vi d1,vi d2,vi d3,vi d4,vi d5,vi sg,vi db],vi 0] (w2.alloc (ach #[vi kd,vi ln,vi (385:Nat),vi d0,vi d1,vi d2,vi d3,vi d4,vi d5,vi sg,vi db] 29)) (kW w.heap.size (w2.alloc (ach #[vi kd,vi ln,vi (385:Nat),vi d0,vi d1,vi d2,vi d3,vi d4,vi d5,vi sg,vi db] 29)) q K2 p2 (bW rI 0 ⟨kd,ln,385,[d0,d1,d2,d3,d4,d5],sg,db⟩) (fsUp (λ_=>DF.none_) 0 (DF.none_.put 384 [5])) 0 (0,(DF.none_.put 384 [5]).cut 0))):=az (by
  have h:=yn (HG2.o.at_.old HB3.o) D6.o 0 aa 0
  rw[aS,fsUp_self,NW]at h
  exact h)
 have iH:Hid (¬KQ K2 q w2.heap.size):=az (λe=>by
  rcases e with e|e
  have:=HG2.o.at_.lt _ e;omega
  have:=HG2.o.at_.JV;omega)
 go_upto_region 3 with fail;generalize w2.alloc (ach #[vi kd,vi ln,vi (385:Nat),vi d0,vi d1,vi d2,vi d3,vi d4,vi d5,vi sg,vi db] 29)=w3 at*;have HB2:Hid (acN w.heap.size w w2):=az ((HB1.o.trans (Wo.o.mono HL1.o)).trans (HG2.o.aJ.dX (λn _ e=>(HQ.o.loose n e).1) (Nat.le_trans HL1.o Wo.o.size)));have HLX:Hid (w.heap.size<=w2.heap.size):=az HB2.o.size;generalize w2.heap.size=x at*;obtain⟨x0,x1,x2,x3,x4,x5,x6,x7,x8,x9,JW⟩:=nK qF.o;go_wp2_with fail;refine Q7.o.mono ?_;rintro e4 w4 ⟨i2,K4,p4,rfl,acD,hcs⟩;rcases hcs with⟨h,_⟩|⟨_,acE,hi4,hd4⟩;exact absurd rfl h;have hi2:i2=rI 0:=NY (JN acE) (by rw[hi4.1,aS];exact HI.o.1) (by rw[hi4.2.1,aS];exact HI.o.2.1) hi4.2.2
 have hroom:p4.aK=9:=by
  rw[acE.aK];have e1:p4.P=9:=by rw[hd4.2.1,HD.o.2.1];rfl
  have e2:((List.range 3).map λj=>aH ((fsUp (fsUp (λ_=>DF.none_) 0 (DF.none_.put 384 [5])) 0 ((DF.none_.put 384 [5]).cut 0)) j).z).sum=0:=by
   show aH ((DF.none_.put 384 [5]).cut 0).z+(aH DF.none_.z+(aH DF.none_.z+0))=0;rw[wS,nL,NV]
  rw[e1];show (9:Int)-(((List.range 3).map λj=>aH ((fsUp (fsUp (λ_=>DF.none_) 0 (DF.none_.put 384 [5])) 0 ((DF.none_.put 384 [5]).cut 0)) j).z).sum:Nat)=9;rw[e2];rfl
 subst hi2;have qK:=az acD;have nJ:=az (acD.keep qF.o (λe=>iH.o (.inl e))).1;have HRO:=az hroom;clear acD acE hi4 hd4 hroom Q7 D6 HI HD iH x0 x1 x2 x3 x4 x5 x6 x7 x8 x9 JW;have Tg:Hid (acN w.heap.size w w4):=az (by
  have h3:acN w.heap.size w w3:=HB2.o.trans (HB3.o.mono HLX.o)
  exact h3.trans (qK.o.aJ.dX (λn _ e=>(HG2.o.at_.loose n e).1) h3.size))
 have xR:Hid (aD (w4.alloc (ach #[vi 1,vi 0,vi 0,vi 0,vi 0,vi 0,vi 0,vi 0,vi 0,vi 0,vi 0] 29)) w4.heap.size 29 #[vi 1,vi 0,vi 0,vi 0,vi 0,vi 0,vi 0,vi 0,vi 0,vi 0,vi 0]):=az (aD.new _ _ _);have qG:Hid (acN w4.heap.size w4 (w4.alloc (ach #[vi 1,vi 0,vi 0,vi 0,vi 0,vi 0,vi 0,vi 0,vi 0,vi 0,vi 0] 29))):=az ax;have afB:=az (nJ.o.old qG.o);have Ex:=az (qK.o.at_.old qG.o);have zt:=az (Tg.o.trans (qG.o.mono Tg.o.size));rw[show dS (rI 0)=acK.agg #[vi 1,vi 0,vi 0,vi 0,vi 0,vi 0,vi 0,vi 0,vi 0,vi 0,vi 0] from rfl];go_upto_region 4 with fail
 clear qG nJ qK Tg;generalize w4.alloc (ach #[vi 1,vi 0,vi 0,vi 0,vi 0,vi 0,vi 0,vi 0,vi 0,vi 0,vi 0] 29)=w5 at*;generalize w4.heap.size=y at*;obtain⟨x0,x1,x2,x3,x4,x5,x6,x7,x8,x9,JW⟩:=nK afB.o;have GK:=az (QL (w:=w5) ⟨kd,ln,385,[d0,d1,d2,d3,d4,d5],sg,db⟩ rfl 0 1);simp only[dS,j4]at GK;go_wp2_with fail;refine GK.o.mono ?_;rintro e6 w6 ⟨rfl,hb6⟩;have BU:=az (afB.o.old hb6);have HY6:=az (xR.o.old hb6);have Ja:=az (po.fP (Ex.o.old hb6));have HW6:=az (zt.o.trans (hb6.mono zt.o.size));rw[HRO.o]at Ja;clear hb6 GK x0 x1 x2 x3 x4 x5 x6 x7 x8 x9 JW
 have x2:w6.cell? ⟨x,2,none⟩=some (vi (385:Nat)):=BU.o.cell 2;obtain⟨y0,y1,y2,y3,y4,y5,y6,y7,y8,y9,y10⟩:=nK HY6.o;have hel:=YU;go_wp2_with fail;refine Ja.o.mono ?_;rintro e7 w7 ⟨rfl,tZ⟩;have HW7:=az (HW6.o.trans (tZ.mono HW6.o.size));clear tZ;go_wp2;go_ret;exact⟨rfl,HW7.o⟩
section
variable{w0:acL}{x:Nat}{K':Nat->Prop}{p p':Po}{is is':Nat->PI.bF}{Fs Qv:Nat->DF}{D D':Nat->RF}{a e a' e' i:Nat}{Z Z':Nat->Prop}
structure On (w0 w:acL)(q:Nat)(K:Nat->Prop)(p:Po)(is:Nat->PI.bF)(Fs:Nat->DF)(D:Nat->RF)(a e i:Nat)(Z:Nat->Prop):Prop where
 run:dL w0.heap.size w q K p is Fs D 82 a e Z
 dW:acN w0.heap.size w0 w
 ae:a<=1000+9000*i/\e<=1000+i
 pp:1<=p.P/\p.P<=80
def On.begin {P:Int}(hP:1<=P/\P<=80)(h:PQ w0.heap.size w q K (rP P))(hb:acN w0.heap.size w0 w)(hz:∀n,Z n->n<w.heap.size):On w0 w q K (rP P) rI (λ_=>DF.none_) rD 1000 1000 0 Z:=⟨EL hP h hz,hb,⟨by omega,by omega⟩,hP⟩
def On.old (h:On w0 w q K p is Fs D a e i Z)(hb:acN w.heap.size w w'):On w0 w' q K p is Fs D a e i Z:=⟨h.run.old hb,h.dW.trans (hb.mono h.dW.size),h.ae,h.pp⟩
def On.loose (h:On w0 w q K p is Fs D a e i Z):∀n,KQ K q n->w0.heap.size<=n:=λn hn=>(h.run.loose n hn).1
def On.below (h:On w0 w q K p is Fs D a e i Z)(g:gF w q K w' K'):acN w0.heap.size w0 w':=h.dW.trans (g.aJ.dX (λn _ e=>h.loose n e) h.dW.size)
def CL (w0 w:acL)(q:Nat)(K:Nat->Prop)(is:Nat->PI.bF)(Fs:Nat->DF)(i:Nat)(Z:Nat->Prop)(k:Nat)(en:Ending)(w':acL):Prop :=
 ∃K' p' is' Qv D' a' e',en=ab4 (.tuple #[adA (aI (aO q is' D')),.bool true])/\On w0 w' q K' p' is' Qv D' a' e' (i+1) Z/\gF w q K w' K'/\(∀j,j≠k->Qv j=Fs j/\is' j=is j)
def On.step (h:On w0 w q K p is Fs D a e i Z)(hi:i<1000)(o:eQ)(ho:o.ok w0.heap.size w):Calls prog 17 #[adA (aI (aO q is D)),adA o.cs.toArray] w (CL w0 w q K is Fs i Z (file3 o.file)):=by
 obtain⟨h1,h2⟩:=h.ae;refine(VO h.run o ho ⟨aa,aa⟩).mono ?_;rintro en w' ⟨K',p',is',Qv,D',a',e',rfl,hr,hg,hae,hj,hP⟩;exact⟨K',p',is',Qv,D',a',e',rfl,⟨hr,h.below hg,⟨aa,aa⟩,by rw[hP];exact h.pp⟩,hg,hj⟩
def On.more (h:On w0 w q K p is Fs D a e i Z)(hb:acN w.heap.size w w'){z:Nat}(hz:w.heap.size<=z)(hl:z<w'.heap.size):On w0 w' q K p is Fs D a e i (λn=>Z n\/n=z):=by
 have h1:=h.old hb;refine⟨⟨h1.run.pq,h.run.fl,h.run.gg,λj hj=>⟨(h.run.df j hj).1.aJ (aP.of_below hb) (λn e=>?_),(h.run.df j hj).2⟩,h.run.ino,λn e=>?_⟩,h1.dW,h.ae,h.pp⟩;rcases e with e|e|e;exact .inl (.inl e);exact .inl (.inr e);exact .inr aa;rcases e with e|e;exact h1.run.zlt n e;omega
def On.less (h:On w0 w q K p is Fs D a e i Z)(hs:∀n,Z' n->Z n):On w0 w q K p is Fs D a e i Z' :=
 ⟨⟨h.run.pq,h.run.fl,h.run.gg,λj hj=>⟨(h.run.df j hj).1.sub (λn e=>e.elim .inl (λe=>.inr (hs n e))),(h.run.df j hj).2⟩,h.run.ino,λn e=>h.run.zlt n (hs n e)⟩,h.dW,h.ae,h.pp⟩
def On.jg (h:On w0 w q K p is Fs D a e i Z){cs:Array acK}(hb:aD w x 37 cs)(hz:Z x)(hn:¬KQ K q x)(hx:w0.heap.size<=x)(hc:aP (λn=>n=x) w w'):On w0 w' q K p is Fs D a e i Z:=by
 refine⟨⟨?_,h.run.fl,h.run.gg,λj hj=>⟨(h.run.df j hj).1.jg (.inr hz) hc,(h.run.df j hj).2⟩,h.run.ino,h.run.zgo hc.size⟩,h.dW.trans (hc.dX (λn _ e=>by rw[e];exact hx) h.dW.size),h.ae,h.pp⟩;exact h.run.pq.aJ hc (λn e=>by rw[e];exact Loose.blk hx hb) (λn hk e=>hn (.inl (by rw[<-e];exact hk))) (λe=>hn (.inr e.symm))
variable{y:Option Addr}{l:List eQ}
def On.ops (h:On w0 w q K p is Fs D a e i Z)(hl:fe w0.heap.size w0 y l):fe w0.heap.size w y l:=hl.old h.dW
def YV (w0:acL)(n:Nat)(en:Ending)(w':acL):Prop:=∃q K p is Fs D a e,en=ab4 (.tuple #[adA (aI (aO q is D)),.bool true])/\On w0 w' q K p is Fs D a e n (λ_=>False)
def JO {W:acL}(h:fe aA W y l)(hk:k<l.length):∃b o,y=some ⟨b,o,none⟩/\(∀W',fe aA W' y l->(W'.cell? ⟨b,o+k*5,none⟩=some (vi (l.getD k default).aL)/\W'.cell? ⟨b,o+k*5+1,none⟩=some (vi (l.getD k default).file)/\W'.cell? ⟨b,o+k*5+2,none⟩=some (vi (l.getD k default).aF)/\W'.cell? ⟨b,o+k*5+3,none⟩=some (vi (l.getD k default).n)/\W'.cell? ⟨b,o+k*5+4,none⟩=some (.slice (l.getD k default).ba (l.getD k default).b.length (l.getD k default).bc)))/\(l.getD k default).ok aA W:=by
 obtain⟨b,o,hy,_,_,hok⟩:=h.lookup hk;refine⟨b,o,hy,λW' h'=>?_,hok⟩;obtain⟨b',o',hy',_,hc,_⟩:=h'.lookup hk;rw[hy]at hy';injection hy' with e;injection e with e1 e2;subst e1 e2;exact⟨hc 0 _ rfl,hc 1 _ rfl,hc 2 _ rfl,hc 3 _ rfl,hc 4 _ rfl⟩
def DT {g:Nat}{C:Nat->acK}{b:Bool}(hb:aD w' g 37 (aI C))(tmps:Array acK)(h2:tmps[4]?=some (adj (some ⟨g,0,none⟩)))(h3:tmps[5]?=some (.bool b)) :
  (results Tryz.f11 tmps).run prog w'=.ok (.tuple #[adA (aI C),.bool b]) w':=by
 have hl:=oU hb;simp only[results,results11];simp[h2,h3,hl,asAddr]
def afC (w0:acL)(q:Nat)(x r:Nat)(k:Nat)(wr:acL):Prop :=
 ∃K p is Fs D a e,On w0 wr q K p is Fs D a e k (λn=>n=x\/n=r)/\aD wr x 37 (aI (aO q is D))/\¬KQ K q x/\aD wr r 37 (aI jQ)/\¬KQ K q r
def vo (w0:acL)(n:Int)(y:Option Addr)(l:List eQ)(c:Nat)(w:acL)(hb0:acN w0.heap.size w0 w)(hl:fe w0.heap.size w0 y l)(hn:owt l<=20000):Calls prog 11 #[vi n,.slice y l.length c] w (YV w0 l.length):=by
 have HL:=az hl;have HB0:=az hb0;have hlen:l.length<=500:=by have:=Fu l;omega
 have HLEN:=az hlen;clear hl hn hlen hb0;go_in;have HR1:Hid (aD (w.alloc (ach (aI jQ) 37)) w.heap.size 37 (aI jQ)/\acN w.heap.size w (w.alloc (ach (aI jQ) 37))):=az ⟨aD.new w _ _,ax⟩;go_upto_region 1 with fail;change Code.wp _ _ _ _ (w.alloc (ach (aI jQ) 37));generalize w.alloc (ach (aI jQ) 37)=w1 at*;obtain⟨r,hr⟩:∃r,r=w.heap.size:=⟨_,rfl⟩;have HRW:Hid (r=w.heap.size):=az hr;rw[<-hr]at HR1 ⊢;clear hr;go_wp2_with fail;have HW1:Hid (acN w0.heap.size w0 w1):=az (by
  have h:=HR1.o.2
  rw[HRW.o]at h
  exact HB0.o.trans (h.mono HB0.o.size))
 refine(sH w0.heap.size n w1 HW1.o.size).mono ?_;rintro e1 w2 ⟨P,q,K,hP,rfl,hpq,hb2,hlow⟩;have HB2:Hid (acN w0.heap.size w0 w2):=az (HW1.o.trans (hb2.mono HW1.o.size));have zU:=az hpq;have AR:=az hP;have HR2:=az (HR1.o.1.old hb2);have Sa:Hid (¬KQ K q r):=az (λe=>by have:=hlow _ e;have:=HR1.o.1.lt;omega);have vN:Hid (w0.heap.size<=r):=az (by rw[HRW.o];exact HB0.o.size);have H1:=az (fu q rI rD);clear hpq hb2 hlow hP;go_upto_region 2 with (refine fU (C:=aO q rI rD) rfl rfl (.tmp 6) (.tmp 12) rfl rfl rfl rfl H1.o ?_;intro w4 hb4 hl4;have nJ:=az hb4;have uf:=az hl4;clear hb4 hl4)
 have iH:Hid (¬KQ K q w2.heap.size):=az (λe=>by
  rcases e with e|e
  have:=zU.o.lt _ e;omega
  have:=zU.o.JV;omega)
 have HXB:Hid (w0.heap.size<=w2.heap.size/\r≠w2.heap.size):=az ⟨HB2.o.size,by have:=HR2.o.lt;omega⟩;have CO:Hid (afC w0 q w2.heap.size r 0 w4):=az ⟨K,_,_,_,_,_,_,On.begin AR.o (zU.o.old uf.o) (HB2.o.trans (uf.o.mono HB2.o.size)) (λn e=>by
  rcases e with e|e
  rw[e];exact nJ.o.lt
  rw[e];exact(HR2.o.old uf.o).lt),nJ.o,iH.o,HR2.o.old uf.o,Sa.o⟩
 obtain⟨x,hx⟩:∃x,x=w2.heap.size:=⟨_,rfl⟩;rw[<-hx]at CO HXB ⊢;clear hx uf HB2 HW1 HR1 HR2 nJ iH zU AR H1;go_wp2_with fail;go_loopw [7,8] (λv7 v8 wr=>∃k:Nat,v8=vi k/\k<=l.length/\v7=.bool true/\Hid (afC w0 q x r k wr)) (λ_ k _=>l.length-(intOf k).toNat)
 case atStart=>exact⟨0,rfl,Nat.zero_le _,rfl,CO⟩
 case round =>
  obtain⟨k,rfl,hkl,rfl,hin⟩:=hrel;obtain⟨K3,p,is,Fs,D,a,e,hst⟩:=hin.o;have eX:=az hst;clear hin hst CO;by_cases hk:k<l.length
  ·have n1:(k:Int)<(l.length:Int):=aa;obtain⟨b,o0,rfl,hcl,hok⟩:=JO (eX.o.1.ops HL.o) hk;have r2:IntKind.i64.wrap ((k:Int)+1)=((k+1:Nat):Int):=by have:=HLEN.o;rw[IntWalk.i64_in _ aa];omega
   have HO0:Hid (fe w0.heap.size wr.drew (some ⟨b,o0,none⟩) l):=az ((eX.o.1.old (acN.refl _ wr).drew).ops HL.o);have HX0:Hid (aD wr.drew x 37 (aI (aO q is D))):=az eX.o.2.1;obtain⟨o,ho⟩:∃o,o=l.getD k default:=⟨_,rfl⟩;rw[<-ho]at hcl hok;have HST:Hid (Calls prog 17 #[adA (aI (aO q is D)),adA o.cs.toArray] wr.drew (CL w0 wr.drew q K3 is Fs k (λn=>n=x\/n=r) (file3 o.file))):=az (by
    have h1:=HLEN.o
    exact(eX.o.1.old (acN.refl _ wr).drew).step aa o (hok.old (acN.refl _ wr).drew))
   clear ho hok;obtain⟨aL,file,aF,nn,ba,bl,bc⟩:=o;dsimp only at hcl;have ajH:Hid (Calls prog 17 #[adA (aI (aO q is D)),adA #[vi aL,vi file,vi aF,vi nn,.slice ba bl.length bc]] wr.drew (CL w0 wr.drew q K3 is Fs k (λn=>n=x\/n=r) (file3 file))):=az HST.o;have jU:=az hk;clear HST hk hkl;go_upto_region 5 with fail;refine wp_region_held_drew (S:=λW'=>fe w0.heap.size W' (some ⟨b,o0,none⟩) l) ah (HO0.o) (λhHeld=>?_);change wpAnyH _ _ _ _ _ 11 #[false,false,false,false,false,false,false,false,false,false,false] _ wr.drew;refine tk 1 ?_;simp only[ay,afD]
   refine tk 2 ?_;simp only[ay,afD];refine tk 3 ?_;simp only[ay,afD];refine tk 4 ?_;simp only[ay,afD];refine rW 0 λK hK=>?_
   refine QK rfl (.tmp 6) rfl rfl HX0.o ?_;refine hK.out _ _ (HO0.o) (λ_=>?_);clear hK K;simp only[ay,afD];refine rW 5 λK hK=>?_
   go_simp;go_at_call 17;refine ajH.o.mono ?_;rintro e2 w2 ⟨K2,p2,QM,Fs2,D2,a2,e3,rfl,hon,hg,hj⟩;obtain⟨hx2,hn2⟩:=hg.blk HX0.o eX.o.2.2.1;have HR2:=az (hg.blk eX.o.2.2.2.1.drew eX.o.2.2.2.2);have JP:=az hon;have lM:=az hx2;have Kq:=az hn2;have yz:=az (hon.ops HL.o);clear hon hg hj hx2 hn2;go_wp2_with fail;refine hK.out _ _ (yz.o) (λ_=>?_);clear hK K;simp only[ay,afD];refine tk 6 ?_;simp only[ay,afD];refine tk 7 ?_;simp only[ay,afD]
   refine tk 8 ?_;simp only[ay,afD];refine rW 9 λK hK=>?_
   refine kr rfl (.tmp 6) (.tmp 30) rfl rfl rfl lM.o rfl (fu q QM D2) ?_;have hst:=dh w2 x (aO q QM D2);have qF:=az (gy lM.o rfl (aO q QM D2));have HR3:=az (HR2.o.1.aJ hst HXB.o.2);have DU:=az (JP.o.jg lM.o (.inl rfl) Kq.o HXB.o.1 hst);generalize cZ w2 x (aO q QM D2)=w3 at*;clear hst;refine hK.out _ _ ((DU.o.ops HL.o)) (λ_=>?_);clear hK K;simp only[ay,afD];refine rW 10 λK hK=>?_
   go_simp;refine hK.out _ _ ((DU.o.ops HL.o)) (λ_=>?_);clear hK K;simp only[ay,afD];refine wpAnyH_done ah ?_ _;clear hHeld;go_wp2;go_roundw
   case rel=>exact⟨k+1,by first|rfl|trivial|go_num|(congr 1;omega),jU.o,by first|rfl|trivial,az ⟨K2,p2,QM,Fs2,D2,a2,e3,DU.o,qF.o,Kq.o,HR3.o,HR2.o.2⟩⟩
   case measure=>have:=jU.o;simp[intOf];omega
  obtain rfl:k=l.length:=aa;have n1:¬((l.length:Nat):Int)<(l.length:Int):=aa;have Nn:=az eX.o.2.1;have HRR:=az eX.o.2.2.2.1;have H1:=az (fu q is D);have hst:=dh wr r (aO q is D);have ajI:=az (gy HRR.o rfl (aO q is D));have uO:Hid (On w0 (cZ wr r (aO q is D)) q K3 p is Fs D a e l.length (λ_=>False)):=az ((eX.o.1.jg HRR.o (.inr rfl) eX.o.2.2.2.2 vN.o hst).less (λn e=>e.elim));clear hst;go_wp2_with (first|(refine mq rfl (.tmp 6) rfl rfl Nn.o ?_)|(refine ko rfl (.tmp 4) (.tmp 32) rfl rfl rfl HRR.o rfl H1.o ?_));exact bodyPost_ret (DT ajI.o _ rfl rfl) rfl ⟨q,K3,p,is,Fs,D,a,e,rfl,uO.o⟩
end
section
variable{ops:Array Oper}{rest:List Oper}{o:Oper}{a:Act}{g:Nat}{C:Nat->acK}{D:Array acK}{Q:Exit->Act->acL->Prop}
def zh (hw:Region.wanted o (yielded ops a.tmps)=true)(x:Operand)(ho:o.op=.load 37 x)(hx:a.eval x=adj (some ⟨g,0,none⟩))(hb:aD w g 37 (aI C))
  (h:wpList prog ops Q rest (a.put o.dst (adA (aI C))) w):wpList prog ops Q (o::rest) a w:=by
 unfold wpList;rw[if_pos hw];refine .inl ?_;unfold Oper.wp;rw[tF x ho hx hb];exact h
variable{K:Act->acL->Prop}{E:Prop}
def uJ (hgd:o.guard=none)(x y:Operand)(ho:o.op=.store 37 x y)(hx:a.eval x=adj (some ⟨g,0,none⟩))(hy:a.eval y=adA (aI C))(hb:aD w g 37 D)(hD:D.size=46)(h1:One C)
  (h:∀W',aD W' g 37 (aI C)->aP (λn=>n=g) w W'->K (a.put o.dst undef) W'):if Region.wanted o (yielded ops a.tmps)=true then Oper.wp prog o a w K Q else E :=
 kr hgd x y ho hx hy hb hD h1 (h _ (gy hb hD C) (dh w g C))
def CP {t:TypeId}(ht:t=37)(hgd:o.guard=none)(x y:Operand)(ho:o.op=.store 37 x y)(hx:a.eval x=adj (some ⟨w.heap.size,0,none⟩))(hy:a.eval y=adA (aI C))(hD:D.size=46)(h1:One C)
  (h:∀W',aD W' w.heap.size 37 (aI C)->acN w.heap.size w W'->K (a.put o.dst undef) W'):if Region.wanted o (yielded ops a.tmps)=true then Oper.wp prog o a (w.alloc (ach D t)) K Q else E:=by
 subst ht;refine uJ hgd x y ho hx hy (aD.new w _ D) hD h1 λW' hb hc=>h W' hb ?_
 have h2:acN w.heap.size w (w.alloc (ach D 37)):=ax;exact h2.trans (hc.dX (λn _ e=>by rw[e];exact aj) h2.size)
end
section
variable{w0:acL}{x z:Nat}{K':Nat->Prop}{p:Po}{is:Nat->PI.bF}{Fs:Nat->DF}{D:Nat->RF}{a e i:Nat}{Z:Nat->Prop}
def On.go (h:On w0 w q K p is Fs D a e i Z)(g:bM w0.heap.size w q K w' K' p):On w0 w' q K' p is Fs D a e i Z:=⟨h.run.go g.go,h.below (gF.fA g.go),h.ae,h.pp⟩
def Bo (w0:acL)(q x z:Nat)(k:Nat)(wr:acL):Prop :=
 ∃K p is Fs D a e,On w0 wr q K p is Fs D a e k (λn=>n=x)/\aD wr z 37 (aI (aO q is D))/\¬KQ K q z/\(∃C,aD wr x 37 (aI C))/\¬KQ K q x
end
end lw
open ChangeShapes WideShapes ChangeAt RowKit Deep
open ChangeMaps (open_string shut_string)
def own:ownKnob prog.godebug=none:=ah
def laidOut:laidOutB prog=true:=ah
section
variable{H:Type}{enc:TypeId×acK->H}{P:Program}
def uK (hl:laidOutB P=true){W W':acL}(hb:acN W.heap.size W W'){sp:Nat->Bool} :
  ∀{ts:List TypeId} {vs:List acK} {ds:List (DataW H)} {ps:List MemPlace},(∀t∈ts,P.readableRec t=true/\t<P.types.size) ->
   DataW.TrodAll enc P W 0 (λ_=>true) true ts vs ds ps->(∀x∈ps,x.block<W.heap.size)->(∀x∈ps,sp x.block=true)->DataW.TrodAll enc P W' 0 sp true ts vs ds ps
 |[],vs,ds,ps,_,h,_,_=>by
  obtain⟨rfl,rfl,rfl⟩:=trodAll_nil h
  exact trodAll_mk0
 |t::ts,vs,ds,ps,ht,h,hlt,hsp=>by
  obtain⟨v,vs',d,ds',p,q,rfl,rfl,rfl,h0,r⟩:=trodAll_cons h
  exact trodAll_cons_mk (WideElems.Trod_stays hl (ht t ai).1 (ht t ai).2 h0 (λx hx=>hb.same (hlt x (by simp[hx]))) (λx hx=>hsp x (by simp[hx])))
   (uK hl hb (λt' h'=>ht t' (by simp[h'])) r (λx hx=>hlt x (by simp[hx])) (λx hx=>hsp x (by simp[hx])))
def tX {f:Func}{s:ChangeSpec}{W W':acL}{args:Array acK}{ds gs:List (DataW H)}{before:List MemPlace}{tb:TypeId}
  (hl:laidOutB P=true) (ajJ:(f.params.toList.all λt=>P.readableRec t&&decide (t<P.types.size))=true)
  (hW:DataW.Whole enc P f.params.toList s.vars false W args.toList ds gs before) (hv:s.vars=[]) (hb:acN W.heap.size W W')
  (hres:f.resultTypes=#[tb]) (htb:P.underlying tb=some .bool)
  (hfn:s.fn H (ds++gs)={results:=[.lit (.bool true)],args:=ds}) :
  s.post enc P f false true false false W args (.bool true) W':=by
 have hts:∀t∈f.params.toList,P.readableRec t=true/\t<P.types.size:=λt ht=>by
  have:=List.all_eq_true.1 ajJ t ht;simpa using this
 have hlt:∀x∈before,x.block<W.heap.size:=λx hx=>hW.lt x hx
 have hW':=hW;obtain⟨p,q,hA,hV,rfl,hfz,hnd⟩:=hW;rw[hv]at hV;obtain⟨rfl,rfl⟩:=trodVars_none hV;refine⟨_,_,_,[],p,[],hW',?_,?_,?_,hb.frame _,λh=>by cases h⟩;rw[hfn,hres];exact trodAll_mk1 (shut_bool htb true);rw[hfn];exact uK hl hb hts hA (λx hx=>hlt x (by simp[hx])) (λx hx=>by simpa using hlt x (by simp[hx]));rw[hfn,hv];rfl
end
namespace lw
open RowKit mgr ft ino po df
def CQ (F:DF)(o:Nat)(l:List Nat):F.size<=(F.put o l).size/\(l≠[]->o+l.length<=(F.put o l).size):=by
 unfold DF.put;split;rename_i h;exact⟨aj,λe=>absurd h e⟩;exact⟨Nat.le_max_left _ _,λ_=>Nat.le_max_right _ _⟩
variable{F:DF}{o:Nat}{l:List Nat}
def aag (hl:l≠[])(x:Nat):(F.put o l).b x=if o<=x/\x<o+l.length then l.getD (x-o) 0 else F.b x:=by
 unfold DF.put;rw[if_neg hl];rfl
def acF (F:DF)(o:Nat)(l:List Nat):rd (F.put o l) o (cnt (F.put o l) o l.length)=l:=by
 by_cases hl:l=[];subst hl;unfold cnt rd;simp;have h1:=(CQ F o l).2 hl;have hc:cnt (F.put o l) o l.length=l.length:=by unfold cnt;omega
 rw[hc];unfold rd;refine List.ext_getElem? λi=>?_
 rw[List.getElem?_map];by_cases hi:i<l.length;rw[List.getElem?_range hi,Option.map_some,aag hl,if_pos ⟨aa,aa⟩,Nat.add_sub_cancel_left,List.getD_eq_getElem?_getD,List.getElem?_eq_getElem hi];rfl;rw[ac7 (by simp;omega),ac7 aa];rfl
variable{n:Nat}
def acG (ht:∀x,F.size<=x->F.b x=0)(hl:l≠[])(hn:n+F.size<=o):rd (F.put o l) (o-n) (cnt (F.put o l) (o-n) n)=List.replicate n 0:=by
 have h1:=(CQ F o l).2 hl;have hc:cnt (F.put o l) (o-n) n=n:=by unfold cnt;omega
 rw[hc];unfold rd;refine List.ext_getElem? λi=>?_
 rw[List.getElem?_map,List.getElem?_replicate];by_cases hi:i<n;rw[List.getElem?_range hi,Option.map_some,aag hl,if_neg aa,if_pos hi,ht _ aa];rw[ac7 (by simp;omega),if_neg hi];rfl
section
variable{p:Po}{is:Nat->PI.bF}{Fs:Nat->DF}{N:Nat}
def fl_zero (h:Fl p N is Fs)(j:Nat):∀x,(Fs j).size<=x->(Fs j).b x=0:=λx hx=>by
 rw[h.b]
 exact h.tail j x (by rwa[<-h.size])
def acH {aF:Int}{free:Int}(h:(kV F aF l free).1=0):0<=aF/\l.length<=1024/\aF<=67968-(l.length:Int)/\kV F aF l free=(0,F.put aF.toNat l):=by
 unfold kV at h ⊢;split at h;cases h;rename_i h1;rw[if_neg h1];split at h;cases h;rename_i h2;rw[if_neg h2];split at h;cases h;rename_i h3;rw[if_neg h3];exact⟨aa,aa,aa,rfl⟩
end
section
variable{w0 W w5:acL}{q x:Nat}{K K':Nat->Prop}{p p':Po}{C:Nat->acK}
structure WrO (w0:acL)(q x g:Nat)(C:Nat->acK)(cs:Array acK)(K':Nat->Prop)(p':Po)(wx:acL):Prop where
 blk:aD wx g 29 cs
 ng:¬KQ K' q g
 run:aD wx x 37 (aI C)
 nx:¬KQ K' q x
 pq:PQ w0.heap.size wx q K' p'
 dW:acN w0.heap.size w0 wx
variable{aA:Nat}
def Mq (h:PQ aA W q K p):∀n,KQ K q n->aA<=n:=λn e=>e.elim (λe=>(h.loose n e).1) (λe=>by
 obtain⟨Y,X,hp,_⟩:=h
 rw[e]
 exact hp.low.2.2)
def CR {w':acL}(hq:PQ w0.heap.size W q K p)(hB:acN w0.heap.size w0 W)(g:gF W q K w' K'):acN w0.heap.size w0 w':=hB.trans (g.aJ.dX (λn _ e=>Mq hq n e) hB.size)
def WrO.go {wx w':acL}{g:Nat}{cs:Array acK}{K2:Nat->Prop}(h:WrO w0 q x g C cs K' p' wx)(r:bM w0.heap.size wx q K' w' K2 p'):WrO w0 q x g C cs K2 p' w':=by
 have g1:=(gF.fA r.go).blk h.blk h.ng;have g2:=(gF.fA r.go).blk h.run h.nx;exact⟨g1.1,g1.2,g2.1,g2.2,r.go.at_,CR h.pq h.dW (gF.fA r.go)⟩
def VX (h:PQ aA W q K p)(hn:W.heap.size<=n):¬KQ K q n:=λe=>e.elim (λe=>by have:=h.lt _ e;omega) (λe=>by have:=h.JV;omega)
def afH (hx:aD W x 37 (aI C))(hn:¬KQ K q x)(hB:acN w0.heap.size w0 W)(hq:PQ w0.heap.size W q K p)(hgo:bG w0.heap.size W q K w5 K' p')(cs:Array acK):WrO w0 q x w5.heap.size C cs K' p' (w5.alloc (ach cs 29)):=by
 obtain⟨h5,GV⟩:=(gF.fA hgo).blk hx hn;have hb:=(acN.refl _ w5).alloc aj (ach cs 29);have h6:=CR hq hB (gF.fA hgo);exact⟨aD.new w5 _ _,VX hgo.at_ aj,h5.alloc _,GV,hgo.at_.old hb,h6.trans (hb.mono h6.size)⟩
def ajN (hx:aD W x 37 (aI C))(hn:¬KQ K q x)(hB:acN w0.heap.size w0 W)(hq:PQ w0.heap.size W q K p)(hgo:bG w0.heap.size (W.alloc zI).drew q K w5 K' p')(u0 u1 u2 u3 u4 u5 u6 u7 u8 u9 wV:acK) :
  aD w5 x 37 (aI C)/\aD w5 W.heap.size 29 #[vi 0,vi 0,vi 0,vi 0,vi 0,vi 0,vi 0,vi 0,vi 0,vi 0,vi 0]/\WrO w0 q x W.heap.size C #[u0,u1,u2,u3,u4,u5,u6,u7,u8,u9,wV] K' p' (uF w5 W.heap.size u0 u1 u2 u3 u4 u5 u6 u7 u8 u9 wV):=by
 have hrg:gF W q K w5 K':=(gF.aX ((acN.refl _ W).alloc aj _).drew).trans (gF.fA hgo);obtain⟨h5,GV⟩:=hrg.blk hx hn;have VK:aD (W.alloc zI).drew W.heap.size 29 #[vi 0,vi 0,vi 0,vi 0,vi 0,vi 0,vi 0,vi 0,vi 0,vi 0,vi 0]:=aD.new W _ _;obtain⟨hblk,QX⟩:=(gF.fA hgo).blk VK (VX hq aj);have hc:=mr w5 W.heap.size u0 u1 u2 u3 u4 u5 u6 u7 u8 u9 wV;have h6:=CR hq hB hrg;exact⟨h5,hblk,EG hblk _ _ _ _ _ _ _ _ _ _ _,QX,h5.aJ hc (by have:=hx.lt;omega),GV,JG hgo.at_ hblk hB.size QX _ _ _ _ _ _ _ _ _ _ _,h6.trans (hc.dX (λn _ e=>by rw[e];exact hB.size) h6.size)⟩
def afI {k:Nat}{is:Nat->PI.bF}{Fs:Nat->DF}{i':PI.bF}(hf:Fl p' 3 (bW is k i') (fsUp Fs k F))(hq:PQ aA W q K' p')(aF n:Int):Calls prog 13 #[ptr q,dS i',vi aF,vi n] W (qc aA W q K' p' (jV F aF n).1 (jV F aF n).2):=by
 have h:=EH hq hf k aF n;rwa[aS,fsUp_self]at h
def acI (F:DF)(o:Nat)(hl:l.length<=1024):jV (F.put o l) (o:Int) (l.length:Int)=(l,0):=by
 unfold jV;rw[if_neg aa];exact congrArg (λx=>(x,(0:Int))) (acF F o l)
def YW (ht:∀x,F.size<=x->F.b x=0)(hl:l≠[])(hn:n+F.size<=o)(hn4:n<=1024):jV (F.put o l) ((o:Int)-(n:Int)) (n:Int)=(List.replicate n 0,0):=by
 unfold jV;rw[if_neg aa];have e:((o:Int)-(n:Int)).toNat=o-n:=aa;rw[e];exact congrArg (λx=>(x,(0:Int))) (acG ht hl hn)
end
section
variable{aA:Nat}{w:acL}{q:Nat}{K:Nat->Prop}{p:Po}{is:Nat->PI.bF}{Fs:Nat->DF}{D:Nat->RF}{e:Nat}{α:Type}{m:Mp α}
def mem_keys (h:MP.Ok m){n:Int}:n∈m.map (·.1)↔MP.get m n≠none:=by
 refine⟨λe hn=>?_,λe=>?_⟩;obtain⟨x,hx,rfl⟩:=List.mem_map.1 e;rw[MP.dR h hx]at hn;cases hn;obtain⟨v,hv⟩:=Option.ne_none_iff_exists'.1 e;exact List.mem_map.2 ⟨_,MP.get_mem hv,rfl⟩
def CS (h:MP.Ok m):(m.map (·.1)).Nodup:=(List.pairwise_map.2 h).imp (λh=>Int.ne_of_lt h)
def vX {β:Type}{m':Mp β}(h:MP.Ok m)(h':MP.Ok m')(e:∀n,MP.get m n=none↔MP.get m' n=none):m.length=m'.length:=by
 have h1:(m.map (·.1)).Perm (m'.map (·.1)):=(List.perm_ext_iff_of_nodup (CS h) (CS h')).2 λn=>by
  rw[mem_keys h,mem_keys h'];exact not_congr (e n)
 have:=h1.length_eq;rwa[List.length_map,List.length_map]at this
def QN (h:PQ aA w q K p):Calls prog 25 #[ptr q] w λe w'=>e=ab4 (goInt p.M.length)/\w'=w:=by
 obtain⟨Y,X,h,_⟩:=h;have e1:Y.D.length=p.M.length:=vX h.pl.iI.ok h.ok.V6 λn=>by
  rcases h.rows n with⟨h1,h2⟩|⟨_,_,_,h1,h2,_⟩;rw[h1,h2];exact⟨λ_=>rfl,λ_=>rfl⟩;rw[h1,h2];exact⟨(λh=>by cases h),(λh=>by cases h)⟩
 rw[<-e1];exact pl.Qx h.pl
def OpR (aA:Nat)(w:acL)(q:Nat)(K:Nat->Prop)(p:Po)(er:Int)(en:Ending)(w':acL):Prop:=∃v K' p',en=ab4 (.tuple #[v,vi er])/\bG aA w q K w' K' p'/\(er≠0->p'=p)
def kW.opr {k:Nat}{r:Int×DF}{en:Ending}{w':acL}(h:kW aA w q K p is Fs k r en w'):OpR aA w q K p r.1 en w':=by
 obtain⟨i',K',p',he,hg,hc⟩:=h;exact⟨_,K',p',he,hg,λhn=>hc.elim (λc=>c.2.2) (λc=>absurd c.1 hn)⟩
def qc.opr {er:Int}{en:Ending}{w':acL}(h:qc aA w q K p l er en w'):OpR aA w q K p er en w':=by
 obtain⟨x,c,K',he,_,hr⟩:=h;exact⟨_,K',p,he,hr.go,λ_=>rfl⟩
def eQ.ok.up {b2:Nat}{o:eQ}(h:o.ok aA w)(hb:aA<=b2):o.ok b2 w :=
 ⟨⟨h.row.row,h.row.safe.elim .inl (λ⟨b,o,e,h⟩=>.inr ⟨b,o,e,h.elim (λh=>.inl (Nat.lt_of_lt_of_le h hb)) .inr⟩)⟩,h.len,h.cap,h.most,h.nums⟩
def fe.up {b2:Nat}{x:Option Addr}{l:List eQ}(h:fe aA w x l)(hb:aA<=b2):fe b2 w x l :=
 ⟨h.at_.imp id (λ⟨b,o,e,h1,h2⟩=>⟨b,o,e,Nat.lt_of_lt_of_le h1 hb,h2⟩),λo ho=>(h.good o ho).up hb,h.len⟩
def YZ {o:eQ}{cs:Array acK}(hcs:cs=o.cs.toArray)(ho:o.ok w.heap.size w):fe (w.alloc (ach cs 48)).heap.size (w.alloc (ach cs 48)) (some ⟨w.heap.size,0,none⟩) [o]:=by
 have hb:acN w.heap.size w (w.alloc (ach cs 48)):=ax;refine⟨.inr ⟨_,_,rfl,by rw[size_alloc];omega,λi hi j u hu=>?_⟩,λo' ho'=>?_,ai⟩;obtain rfl:i=0:=by simpa using hi
 refine((aD.new w 48 cs).cell (0+0*5+j)).trans ?_;subst hcs;simpa using hu;obtain rfl:=List.mem_singleton.1 ho';exact(ho.old hb).up hb.size
end
end lw
end Go.Proofs.YtllmbcigmimgoaaGreat
