/-
  NodeFrees: a file that is cut to 0 takes nothing; all that it took is free again. No conditions.
-/
import Derived.Test.YtllmbcigmimgoaaGreatZB17
set_option maxRecDepth 100000
set_option maxHeartbeats 20000000
set_option linter.all false
namespace Go.Proofs.YtllmbcigmimgoaaGreat
open _root_.Go.Proofs.Tryz
open _root_.Go.Ending renaming returned->ab4
open _root_.Go.RowKit renaming Below->acN
namespace nodeFrees
open ChangeShapes WideShapes ChangeAt RowKit Deep
open mgr ft ino po df lw
section
variable{aA:Nat}{w w':World}{q x:Nat}{K K':Nat->Prop}{p p':Po}{is:Nat->PI.bF}{Fs:Nat->DF}{D:Nat->RF}{k:Nat}
theorem VY (hf:Fl p 3 is Fs){i':PI.bF}(hf':Fl p' 3 (bW is k i') (fsUp Fs k ((Fs k).cut 0)))(hP:p'.P=p.P)(hk:k<3):p'.aK=p.aK+aH (Fs k).z:=by
 rw[hf'.aK,hf.aK,hP];have h0:aH ((Fs k).cut 0).z=0:=by rw[wS,nL]
 have e1:((List.range 3).map λj=>aH (Fs j).z).sum=aH (Fs 0).z+(aH (Fs 1).z+(aH (Fs 2).z+0)):=rfl;have e2:((List.range 3).map λj=>aH (fsUp Fs k ((Fs k).cut 0) j).z).sum=aH (fsUp Fs k ((Fs k).cut 0) 0).z+(aH (fsUp Fs k ((Fs k).cut 0) 1).z+(aH (fsUp Fs k ((Fs k).cut 0) 2).z+0)):=rfl;rw[e1,e2];rcases (by omega:k=0\/k=1\/k=2) with rfl|rfl|rfl;rw[fsUp_self,fsUp_other _ _ (by omega:(1:Nat)≠0),fsUp_other _ _ (by omega:(2:Nat)≠0),h0];omega;rw[fsUp_self,fsUp_other _ _ (by omega:(0:Nat)≠1),fsUp_other _ _ (by omega:(2:Nat)≠1),h0];omega;rw[fsUp_self,fsUp_other _ _ (by omega:(0:Nat)≠2),fsUp_other _ _ (by omega:(1:Nat)≠2),h0];omega
def afL (aA:Nat)(w:World)(q:Nat)(K:Nat->Prop)(p:Po)(is:Nat->PI.bF)(Fs:Nat->DF)(k:Nat)(en:Ending)(w':World):Prop :=
 ∃K' p',en=ab4 (.tuple #[.agg #[vi 1,vi k,vi 0,vi 0,vi 0,vi 0,vi 0,vi 0,vi 0,vi 0,vi 0],vi 0])/\bG aA w q K w' K' p'/\Fl p' 3 (bW is k (rI k)) (fsUp Fs k ((Fs k).cut 0))/\p'.P=p.P/\p'.aK=p.aK+aH (Fs k).z
theorem YX (hq:PQ aA w q K p)(hf:Fl p 3 is Fs)(hk:k<3)(VJ:(is k).aL=1/\(is k).links=k):Calls prog 23 #[ptr q,dS (is k),vi 0] w (afL aA w q K p is Fs k):=by
 refine(yn hq hf k hk 0).mono ?_;rw[NW];rintro en w' ⟨i',K',p',rfl,hg,hc⟩;rcases hc with⟨h,_⟩|⟨_,hfl,hi,hd⟩;exact absurd rfl h;have hb:i'=rI k:=NY (JN hfl) (hi.1.trans VJ.1) (hi.2.1.trans VJ.2) hi.2.2;subst hb;exact⟨K',p',rfl,hg,hfl,hd.2.1,VY hf hfl hd.2.1 hk⟩
def acJ (w0:World)(q x:Nat)(yt:Nat->PI.bF)(D:Nat->RF)(k:Nat)(wr:World):Prop :=
 ∃K p is Fs,PQ w0.heap.size wr q K p/\Fl p 3 is Fs/\acN w0.heap.size w0 wr/\aD wr x 37 (aI (aO q yt D))/\¬KQ K q x/\(∀j,k<=j->is j=yt j)/\∀j,j<k->aH (Fs j).z=0
theorem YY (k:Nat)(hk:k<3)(w:World):(binOp .neq 29 (.agg #[vi 1,vi k,vi 0,vi 0,vi 0,vi 0,vi 0,vi 0,vi 0,vi 0,vi 0]) (.agg #[vi 1,vi k,vi 0,vi 0,vi 0,vi 0,vi 0,vi 0,vi 0,vi 0,vi 0])).run prog w=.ok (.bool false) w:=by
 rcases (by omega:k=0\/k=1\/k=2) with rfl|rfl|rfl;kernel_rfl;kernel_rfl;kernel_rfl
end
theorem walk (n:Int)(y:qB eQ)(w:World)(hy:fe w.heap.size w y.a y.l):Calls prog 7 #[vi n,y.v] w λe w'=>e=ab4 (.bool true)/\acN w.heap.size w w':=by
 obtain⟨ya,l,yc⟩:=y;have HL:=az hy;dsimp only at HL;change Calls prog 7 #[vi n,.slice ya l.length yc] w _;clear hy;go_in;go_wp2_with fail;refine(ru yc HL.o).mono ?_;rintro e1 w1 ⟨t,rfl,rfl,hs⟩;cases t
 ·have HN:=az (hs rfl);clear hs;go_wp2_with fail;refine(vo w1 n ya l yc w1 ak HL.o HN.o).mono ?_;rintro e2 w2 ⟨q,K,p,yt,Fs0,D,a,e,rfl,hon⟩;have zJ:=az hon;have H1:=az (fu q yt D);clear hon;go_upto_region 4 with (refine fU (C:=aO q yt D) rfl rfl (.tmp 5) (.tmp 19) rfl rfl rfl rfl H1.o ?_;intro w4 hb4 hl4;have nJ:=az hb4;have uf:=az hl4;clear hb4 hl4);have ajP:Hid (∀k,k<3->(yt k).aL=1/\(yt k).links=k):=az zJ.o.run.ino;have ajQ:Hid (∀k,(yt k).direct.length=6):=az zJ.o.run.fl.fam.six;have CO:Hid (acJ w1 q w2.heap.size yt D 0 w4):=az ⟨K,p,yt,Fs0,zJ.o.run.pq.old uf.o,zJ.o.run.fl,zJ.o.dW.trans (uf.o.mono zJ.o.dW.size),nJ.o,λe=>by have:=zJ.o.run.ZW _ e;omega,λ_ _=>rfl,λj hj=>aa⟩
  have HXB:Hid (w1.heap.size<=w2.heap.size):=az zJ.o.dW.size;obtain⟨x,hx⟩:∃x,x=w2.heap.size:=⟨_,rfl⟩;rw[<-hx]at CO HXB ⊢;clear hx uf nJ zJ H1;go_wp2_with fail;go_loopw [7] (λv7 wr=>∃k:Nat,v7=vi k/\k<=3/\Hid (acJ w1 q x yt D k wr)) (λk _=>3-(intOf k).toNat)
  case atStart=>exact⟨0,rfl,aa,CO⟩
  case round =>
   obtain⟨k,rfl,hk3,hin⟩:=hrel;obtain⟨K3,p,is,Fs,hst⟩:=hin.o;have eX:=az hst;clear hin hst CO;by_cases hk:k<3
   ·have n1:(k:Int)<3:=aa;have r2:IntKind.i64.wrap ((k:Int)+1)=((k+1:Nat):Int):=by rw[IntWalk.i64_in _ aa];omega
    have HKK:=az hk;obtain⟨kd,ln,sz,d0,d1,d2,d3,d4,d5,sg,db,hik⟩:∃kd ln sz d0 d1 d2 d3 d4 d5 sg db,yt k=⟨kd,ln,sz,[d0,d1,d2,d3,d4,d5],sg,db⟩:=by
     have h6:=ajQ.o k;generalize yt k=i at*;obtain⟨kd,ln,sz,dl,sg,db⟩:=i;obtain⟨d0,d1,d2,d3,d4,d5,rfl⟩:=six (l:=dl) h6;exact⟨kd,ln,sz,d0,d1,d2,d3,d4,d5,sg,db,rfl⟩
    have hi:∀W',aD W' x 37 (aI (aO q yt D))->(W'.cell? ⟨x,0,none⟩=some (ptr q)/\W'.cell? ⟨x,1+k*11,none⟩=some (vi kd)/\W'.cell? ⟨x,1+k*11+1,none⟩=some (vi ln)/\W'.cell? ⟨x,1+k*11+2,none⟩=some (vi sz)/\W'.cell? ⟨x,1+k*11+3,none⟩=some (vi d0)/\W'.cell? ⟨x,1+k*11+4,none⟩=some (vi d1)/\W'.cell? ⟨x,1+k*11+5,none⟩=some (vi d2)/\W'.cell? ⟨x,1+k*11+6,none⟩=some (vi d3)/\W'.cell? ⟨x,1+k*11+7,none⟩=some (vi d4)/\W'.cell? ⟨x,1+k*11+8,none⟩=some (vi d5)/\W'.cell? ⟨x,1+k*11+9,none⟩=some (vi sg)/\W'.cell? ⟨x,1+k*11+10,none⟩=some (vi db)):=λW' hb=>by
     have hc:=λj hj=>GD hb k HKK.o j hj
     rw[hik]at hc;exact⟨(gu hb).1 0 aa,hc 0 aa,hc 1 aa,hc 2 aa,hc 3 aa,hc 4 aa,hc 5 aa,hc 6 aa,hc 7 aa,hc 8 aa,hc 9 aa,hc 10 aa⟩
    obtain⟨R,hR⟩:∃R,R=p.aK:=⟨_,rfl⟩;obtain⟨T,hT⟩:∃T,T=aH (Fs k).z:=⟨_,rfl⟩;have hRb:0<=R/\R<=8192:=by
     have h1:=eX.o.1.ok;have h2:=h1.W9;have h3:=h1.bI;rw[hR];unfold Po.aK;omega
    have r3:IntKind.i64.wrap (R+(T:Int))=R+(T:Int):=by have:=kg (Fs k).z;rw[IntWalk.i64_in _ aa]
    have HIS:Hid (is k=yt k):=az (eX.o.2.2.2.2.2.1 k aj);have Ja:=az (po.fP (eX.o.1.old (acN.refl _ wr).drew));have zQ:Hid (∀V,acN wr.heap.size wr V->Calls prog 22 #[ptr q,.agg #[vi kd,vi ln,vi sz,vi d0,vi d1,vi d2,vi d3,vi d4,vi d5,vi sg,vi db]] V λe w'=>∃K',e=ab4 (vi T)/\bM w1.heap.size V q K3 w' K' p):=az (λV hb=>by
     have h1:=CF (eX.o.1.old hb) eX.o.2.1 k
     rw[HIS.o,hik,<-hT]at h1
     exact h1)
    have HCT:Hid (∀V K',PQ w1.heap.size V q K' p->Calls prog 23 #[ptr q,.agg #[vi kd,vi ln,vi sz,vi d0,vi d1,vi d2,vi d3,vi d4,vi d5,vi sg,vi db],vi 0] V (afL w1.heap.size V q K' p is Fs k)):=az (λV K' hq=>by
     have h1:=YX hq eX.o.2.1 HKK.o (by rw[HIS.o];exact ajP.o k HKK.o)
     rw[HIS.o,hik]at h1
     exact h1)
    rw[<-hR]at Ja;have HRR:=az hR;have CX:=az hT;have uG:Hid (aD wr.drew x 37 (aI (aO q yt D))):=az eX.o.2.2.2.1;clear hik hRb hk hk3 hR hT;go_upto_region 9 with fail;go_cut [8,9] from 27 to 70 (λv8 v9 wx=>v8=vi R/\v9=vi T/\∃K',Hid (bM w1.heap.size wr q K3 wx K' p/\aD wx x 37 (aI (aO q yt D))/\¬KQ K' q x))
    case first =>
     go_region_held3 (λW'=>aD W' x 37 (aI (aO q yt D)))
      (with_reducible (first|exact uG.o|exact Ob.o.1|exact yC.o.2.1|fail))
      (first
       |(go_at_call 21;refine Ja.o.mono ?_;rintro e5 w5 ⟨rfl,hb5⟩;have qG:Hid (acN wr.heap.size wr w5):=az ((acN.refl _ wr).drew.trans hb5);have Ob:Hid (aD w5 x 37 (aI (aO q yt D))/\True):=az ⟨eX.o.2.2.2.1.old qG.o,trivial⟩;have acp:=az (zQ.o _ qG.o);clear hb5)
       |(go_at_call 22;refine acp.o.mono ?_;rintro e6 w6 ⟨K6,rfl,hrd⟩;have Xp:=(gF.fA hrd.go).blk Ob.o.1 eX.o.2.2.2.2.1;have yC:Hid (bM w1.heap.size wr q K3 w6 K6 p/\aD w6 x 37 (aI (aO q yt D))/\¬KQ K6 q x):=az ⟨(bM.aX eX.o.1 qG.o).trans hrd,Xp.1,Xp.2⟩;clear hrd Xp))
     go_wp2;go_meet;exact⟨rfl,rfl,_,yC⟩
    case rest =>
    obtain⟨rfl,rfl,K5,hm⟩:=hcut;have HM:=az hm.o;clear hm uG Ja zQ;obtain⟨wm,hwm⟩:∃wm,wm=wc:=⟨_,rfl⟩;subst hwm;have qG:Hid (acN w1.heap.size w1 wm):=az (CR eX.o.1 eX.o.2.2.1 (gF.fA HM.o.1.go));have Ex:Hid (PQ w1.heap.size wm q K5 p):=az HM.o.1.go.at_;have afM:=az (HCT.o wm.drew K5 (Ex.o.old au));have afN:=az (HCT.o (wm.alloc zI).drew K5 (Ex.o.old ((acN.refl _ wm).alloc aj zI).drew));have uG:Hid (aD wm.drew x 37 (aI (aO q yt D))):=az HM.o.2.1.drew;have GU:Hid (aD (wm.alloc zI).drew x 37 (aI (aO q yt D))):=az (HM.o.2.1.alloc _).drew
    go_upto_region 10 with fail;go_cut [10,11] from 37 to 70 (λv10 v11 wx=>∃g,v10=ptr g/\v11=vi 0/\∃K6 p6,Hid (WrO w1 q x g (aO q yt D) #[vi 1,vi k,vi 0,vi 0,vi 0,vi 0,vi 0,vi 0,vi 0,vi 0,vi 0] K6 p6 wx/\Fl p6 3 (bW is k (rI k)) (fsUp Fs k ((Fs k).cut 0))/\p6.P=p.P/\p6.aK=R+(T:Int)))
    case first =>
     go_region_held3 (λW'=>aD W' x 37 (aI (aO q yt D)))
      (with_reducible (first|exact uG.o|exact GU.o|exact mY.o|exact xG.o|exact mZ.o|fail))
      (first
       |(go_at_call 23;refine afM.o.mono ?_;rintro e7 w7 ⟨K6,p6,rfl,hgo,VZ,hP6,ZH⟩;have hw7:=afH HM.o.2.1.drew HM.o.2.2 qG.o.drew (Ex.o.old au) hgo #[vi 1,vi k,vi 0,vi 0,vi 0,vi 0,vi 0,vi 0,vi 0,vi 0,vi 0];have mY:=az ((gF.fA hgo).blk HM.o.2.1.drew HM.o.2.2).1;have xG:=az (mY.o.alloc zI);have mZ:=az hw7.run;have uO:Hid (∃K6 p6,Hid (WrO w1 q x _ (aO q yt D) #[vi 1,vi k,vi 0,vi 0,vi 0,vi 0,vi 0,vi 0,vi 0,vi 0,vi 0] K6 p6 _/\Fl p6 3 (bW is k (rI k)) (fsUp Fs k ((Fs k).cut 0))/\p6.P=p.P/\p6.aK=R+(T:Int))):=az ⟨K6,p6,az ⟨hw7,VZ,hP6,by rw[HRR.o,CX.o];exact ZH⟩⟩;clear hw7 hgo VZ hP6 ZH)
       |(go_at_call 23;refine afN.o.mono ?_;rintro e7 w7 ⟨K6,p6,rfl,hgo,VZ,hP6,ZH⟩;obtain⟨hs5,hbk,hw7⟩:=ajN HM.o.2.1 HM.o.2.2 qG.o Ex.o hgo (vi 1) (vi k) (vi 0) (vi 0) (vi 0) (vi 0) (vi 0) (vi 0) (vi 0) (vi 0) (vi 0);have mY:=az hs5;have mZ:=az hw7.run;have uO:Hid (∃K6 p6,Hid (WrO w1 q x _ (aO q yt D) #[vi 1,vi k,vi 0,vi 0,vi 0,vi 0,vi 0,vi 0,vi 0,vi 0,vi 0] K6 p6 _/\Fl p6 3 (bW is k (rI k)) (fsUp Fs k ((Fs k).cut 0))/\p6.P=p.P/\p6.aK=R+(T:Int))):=az ⟨K6,p6,az ⟨hw7,VZ,hP6,by rw[HRR.o,CX.o];exact ZH⟩⟩;obtain⟨b0,b1,b2,b3,b4,b5,b6,b7,b8,b9,b10⟩:=nK hbk;have z0:=hbk.frozen 0;have z1:=hbk.frozen 1;have z2:=hbk.frozen 2;have z3:=hbk.frozen 3;have z4:=hbk.frozen 4;have z5:=hbk.frozen 5;have z6:=hbk.frozen 6;have z7:=hbk.frozen 7;have z8:=hbk.frozen 8;have z9:=hbk.frozen 9;have Ui:=hbk.frozen 10;clear hs5 hbk hw7 hgo VZ hP6 ZH))
     all_goals
      go_wp2;go_meet;exact⟨_,rfl,rfl,uO.o⟩
    case rest =>
    obtain⟨g,rfl,rfl,K6,p6,hm⟩:=hcut;have HW:=az hm.o;clear hm uG GU afM afN HCT HM Ex qG;obtain⟨wx,hwx⟩:∃wx,wx=wc:=⟨_,rfl⟩;subst hwx;have i0:wx.cell? ⟨x,0,none⟩=some (ptr q):=(hi wx HW.o.1.run).1;obtain⟨b0,b1,b2,b3,b4,b5,b6,b7,b8,b9,b10⟩:=nK HW.o.1.blk;have hne:=λw=>YY k HKK.o w
    have afP:Hid (Calls prog 21 #[ptr q] wx λe w'=>e=ab4 (vi (R+(T:Int)))/\acN wx.heap.size wx w'):=az (by
     have h:=po.fP HW.o.1.pq
     rwa[HW.o.2.2.2]at h)
    have HT0:Hid (aH (fsUp Fs k ((Fs k).cut 0) k).z=0):=az (by rw[fsUp_self,wS,nL]);have Yr:Hid (∀V,acN wx.heap.size wx V->Calls prog 22 #[ptr q,.agg #[vi 1,vi k,vi 0,vi 0,vi 0,vi 0,vi 0,vi 0,vi 0,vi 0,vi 0]] V λe w'=>∃K',e=ab4 (vi 0)/\bM w1.heap.size V q K6 w' K' p6):=az (λV hb=>by
     have h:=CF (HW.o.1.pq.old hb) HW.o.2.1 k
     rw[aS,HT0.o]at h
     exact h)
    go_wp2_with fail;refine afP.o.mono ?_;rintro e8 w8 ⟨rfl,wT⟩;have wX:=az wT;have afQ:=az (Yr.o _ wT);have j0:w8.cell? ⟨x,0,none⟩=some (ptr q):=(hi w8 (HW.o.1.run.old wT)).1;obtain⟨d0,d1,d2,d3,d4,d5,d6,d7,d8,d9,d10⟩:=nK (HW.o.1.blk.old wT);clear wT i0 b0 b1 b2 b3 b4 b5 b6 b7 b8 b9 b10 afP Yr;go_wp2_with fail;refine afQ.o.mono ?_;rintro e9 w9 ⟨K9,rfl,hrd⟩;have HW9:=az ((bM.aX HW.o.1.pq wX.o).trans hrd);clear hrd d0 d1 d2 d3 d4 d5 d6 d7 d8 d9 d10 j0 afQ;have QR:Hid (acJ w1 q x yt D (k+1) w9):=az ⟨K9,p6,bW is k (rI k),fsUp Fs k ((Fs k).cut 0),HW9.o.go.at_,HW.o.2.1,(HW.o.1.go HW9.o).dW,(HW.o.1.go HW9.o).run,(HW.o.1.go HW9.o).nx,λj hj=>(aV _ _ aa).trans (eX.o.2.2.2.2.2.1 j aa),λj hj=>by
     by_cases e:j=k
     rw[e];exact HT0.o
     rw[fsUp_other _ _ e];exact eX.o.2.2.2.2.2.2 j aa⟩
    go_wp2;go_roundw
    case rel=>exact⟨k+1,by first|rfl|trivial|go_num|(congr 1;omega),by have:=HKK.o;omega,QR⟩
    case measure=>have:=HKK.o;simp[intOf];omega
   obtain rfl:k=3:=aa;have n1:¬((3:Nat):Int)<3:=aa;have Ja:Hid (p.aK=p.P):=az (by
    have h:=eX.o.2.1.aK
    have e1:((List.range 3).map λj=>aH (Fs j).z).sum=aH (Fs 0).z+(aH (Fs 1).z+(aH (Fs 2).z+0)):=rfl
    rw[e1,eX.o.2.2.2.2.2.2 0 aa,eX.o.2.2.2.2.2.2 1 aa,eX.o.2.2.2.2.2.2 2 aa]at h
    omega)
   have yx:Hid (∀V,acN wr.heap.size wr V->Calls prog 21 #[ptr q] V λe w'=>e=ab4 (vi p.P)/\acN V.heap.size V w'):=az (λV hb=>by
    have h:=po.fP (eX.o.1.old hb)
    rwa[Ja.o]at h)
   have JQ:Hid (∀V,acN wr.heap.size wr V->Calls prog 24 #[ptr q] V λe w'=>e=ab4 (.agg #[vi p.T,vi (p.T+1),vi p.P,vi p.I])/\acN V.heap.size V w'):=az (λV hb=>Cv (eX.o.1.old hb));have hfl:=λw=>field_l2 p.T (p.T+1) p.P p.I w
   have HI:Hid (∀V,acN wr.heap.size wr V->V.cell? ⟨x,0,none⟩=some (ptr q)):=az (λV hb=>(gu (eX.o.2.2.2.1.old hb)).1 0 aa);have HB0:=az (acN.refl wr.heap.size wr).drew;have ajS:=az (yx.o _ HB0.o);have HI0:=az (HI.o _ HB0.o);go_upto_region 13 with fail;go_region_held3 (λW'=>W'.cell? ⟨x,0,none⟩=some (ptr q))
    (with_reducible (first|exact HI0.o|exact HI1.o|exact HI2.o|exact HI3.o|fail))
    (first
     |(go_at_call 21;refine ajS.o.mono ?_;rintro e5 w5 ⟨rfl,hb5⟩;have HB1:Hid (acN wr.heap.size wr w5):=az (HB0.o.trans (hb5.mono HB0.o.size));have HI1:=az (HI.o _ HB1.o);have ajT:=az (JQ.o _ HB1.o);clear hb5)
     |(go_at_call 24;refine ajT.o.mono ?_;rintro e6 w6 ⟨rfl,hb6⟩;have HB2:Hid (acN wr.heap.size wr w6):=az (HB1.o.trans (hb6.mono HB1.o.size));have HI2:=az (HI.o _ HB2.o);clear hb6)
     |(go_at_call 10;refine(jB _).mono ?_;rintro e7 w7 ⟨rfl,tZ⟩;have HB3:Hid (acN wr.heap.size wr w7):=az (HB2.o.trans (tZ.mono HB2.o.size));have HI3:=az (HI.o _ HB3.o);clear tZ))
   go_wp2;go_ret;exact⟨rfl,eX.o.2.2.1.trans (HB3.o.mono eX.o.2.2.1.size)⟩
 go_wp2_with fail;refine(jB _).mono ?_;rintro e2 w2 ⟨rfl,hb⟩;have HB:=az hb;clear hb;go_wp2;go_ret;exact⟨rfl,HB.o⟩
theorem lifted (os:Os)(started:os.Started)(H:Type)(enc:TypeId×Value->H) :
  ReturnsInHanded {} checked os 7 .any (Rows.nodeFreesSpec.pre6 enc prog Tryz.f7 Rows.nodeFreesRow.domain false) (Rows.nodeFreesSpec.post enc prog Tryz.f7 false true false false):=by
 refine returnsInHanded_of_change_sized (C:=checked) own started ah func7
  (ChangeSpec.witness6 (enc:=enc) (C:=checked) false ⟨#[],#[.int .i64 0,.slice none 0 0],[]⟩ 8 ah ah ah ah) ?_
 intro W aA args ds gs before hval0 hW hcnd hwt _;have hval:∀(j:Nat) t v,Tryz.f7.params[j]?=some t->args[j]?=some v->Value.okWide prog W .any aA t v:=hval0;have hW':=hW;obtain⟨p,q,JY,hV,rfl,hfz,hnd⟩:=hW;have hA:DataW.TrodAll enc prog W 0 (λ_=>true) true Tryz.f7.params.toList args.toList ds p:=JY;rw[params7]at hA hval hwt;obtain⟨v0,vs0,d0,ds0,p0,q0,hargs,rfl,rfl,h0,r0⟩:=trodAll_cons hA;obtain⟨v1,vs1,d1,ds1,p1,q1,rfl,rfl,rfl,h1,r1⟩:=trodAll_cons r0;obtain⟨rfl,rfl,rfl⟩:=trodAll_nil r1;obtain rfl:args=#[v0,v1]:=by cases args;simp_all
 obtain⟨rfl,rfl⟩:=trodVars_none hV;obtain⟨a0,rfl,rfl,rfl,w0⟩:=open_int underlying3 (hval 0 3 v0 rfl rfl) h0;obtain⟨x1,rfl,hx1⟩:=lw.sN h1 (hval 1 22 v1 rfl rfl) (jZ hwt (j:=1) rfl rfl);refine(walk a0 x1 W hx1).mono λe W' ⟨he,dW⟩=>?_
 subst he;exact⟨_,rfl,tX laidOut ah hW' rfl dW rfl underlying4 rfl⟩
theorem facts:joinedFacts Tryz.pinned.checked.prog 7 Tryz.f7 Rows.nodeFreesSpec Rows.nodeFreesRow=true:=by
 unfold joinedFacts;simp only[Bool.and_eq_true];and_intros;all_goals as_aux_lemma=>kernel_rfl
theorem over:Rows.nodeFreesRow.holds Tryz.pinned (OpenSpec.ofChange Rows.nodeFreesSpec) :=
 OpenClaim.holds_of_wide 7 Tryz.f7 rfl rfl rfl rfl rfl rfl rfl ⟨rfl,rfl,rfl,rfl,rfl⟩ rfl rfl rfl rfl rfl ah func7 facts
  (of_decide_eq_true ah) (by unfold Func.isWrapper;first|(rw[if_pos (by decide +kernel)];kernel_rfl)|(rw[if_neg (by decide +kernel)];exact⟨rfl,rfl⟩))
  (λos started H enc _=>lifted os started H enc)
theorem proved:Rows.NodeFreesSaid:=over
#print axioms proved
end nodeFrees
end Go.Proofs.YtllmbcigmimgoaaGreat
