/-
  Lemmas for a law's proof, put together from several texts. No conditions of their own.
-/
import Derived.Test.YtllmbcigmimgoaaGreatZC10
import Derived.Test.YtllmbcigmimgoaaGreatZC03
import Derived.Test.YtllmbcigmimgoaaGreatZC02
import Derived.Test.YtllmbcigmimgoaaGreatZC06
import Derived.Test.YtllmbcigmimgoaaGreatZC05
import Derived.Test.YtllmbcigmimgoaaGreatZC07
import Derived.Test.YtllmbcigmimgoaaGreatZC01
import Derived.Deep.Slices
import Derived.Deep.Fields
import Derived.ChangeSame
set_option maxRecDepth 100000
set_option maxHeartbeats 20000000
set_option linter.all false
namespace Go.Proofs.YtllmbcigmimgoaaGreat
open _root_.Go.Proofs.Tryz
open _root_.Bool renaming and_eq_true->ac8
open _root_.Go renaming World->acL,Value->acK,Calls->ac4,wp_region_held_drew->agr,wpAnyH_done->ags,bodyPost_ret->ac5
open _root_.Go.Act renaming put->afD
open _root_.Go.Ending renaming returned->ab4
open _root_.Go.Obj renaming cells->ach,deferred->adL
open _root_.Go.Operand renaming tmp->agq
open _root_.Go.RowKit renaming Below->acN
open _root_.Go.RowKit.Below renaming refl->ac3
open _root_.Go.Value renaming bool->acg,slice->aco,agg->adA,tuple->adg,pointer->adj
open _root_.Go.World renaming putObj_heap_other->af4
open _root_.List renaming replicate->aaA,length_replicate->abP,getElem?_replicate->afk
open _root_.Nat renaming le_trans->abX,lt_of_lt_of_le->adN
open _root_.Or renaming inl->ack,inr->acm
namespace lw
open RowKit mgr ft ino po df
section
variable{aA:Nat}{w w':acL}{q:Nat}{K K':Nat->Prop}{p p':Po}{is is':Nat->PI.bF}{Fs:Nat->DF}{D D':Nat->RF}{t a e:Nat}{Z:Nat->Prop}
abbrev iV (k l s d0 d1 d2 d3 d4 d5 g b:Nat):Array acK:=#[vi k,vi l,vi s,vi d0,vi d1,vi d2,vi d3,vi d4,vi d5,vi g,vi b]
abbrev dV (s:Nat)(a:Option Addr)(N c:Nat)(b:Option Addr)(d:Nat):Array acK:=#[vi 64,vi s,aco a N c,aco b N d]
abbrev zI:Obj:=ach #[vi 0,vi 0,vi 0,vi 0,vi 0,vi 0,vi 0,vi 0,vi 0,vi 0,vi 0] 29
abbrev zD:Obj:=ach #[vi 0,vi 0,aco none 0 0,aco none 0 0] 34
def Mid (aA:Nat)(W:acL)(q:Nat)(K:Nat->Prop)(p:Po)(is:Nat->PI.bF)(Fs:Nat->DF)(k:Nat)(x y r:Nat)(C:Nat->acK)(O:Array acK)(out:Int×DF)(v7 v8:acK)(wx:acL):Prop :=
 ∃g i' K' p',v7=ptr g/\v8=vi out.1/\i'.direct.length=6/\aD wx g 29 (j4 i')/\Bx x y r C O wx/\gF W q K wx K'/\PQ aA wx q K' p'/\(¬KQ K' q x/\¬KQ K' q y/\¬KQ K' q r)/\((out.1≠0/\i'=PI.none_/\p'=p) \/
  (out.1=0/\Fl p' 3 (bW is k i') (fsUp Fs k out.2)/\(i'.aL=(is k).aL/\i'.links=(is k).links/\i'.size=out.2.size)/\(p'.T=p.T/\p'.P=p.P/\p'.I=p.I/\(p'.B,p'.G)=(p.B,p.G))))
abbrev uF (W:acL)(g:Nat)(u0 u1 u2 u3 u4 u5 u6 u7 u8 u9 wV:acK):acL:=(((((((((((W.setCell ⟨g,0,none⟩ u0).setCell ⟨g,1,none⟩ u1).setCell ⟨g,2,none⟩ u2).setCell ⟨g,3,none⟩ u3).setCell ⟨g,4,none⟩ u4).setCell ⟨g,5,none⟩ u5).setCell ⟨g,6,none⟩ u6).setCell ⟨g,7,none⟩ u7).setCell ⟨g,8,none⟩ u8).setCell ⟨g,9,none⟩ u9).setCell ⟨g,10,none⟩ wV)
variable{g:Nat}
def EG {W:acL}{ty:TypeId}{c0 c1 c2 c3 c4 c5 c6 c7 c8 c9 c10:acK}(h:aD W g ty #[c0,c1,c2,c3,c4,c5,c6,c7,c8,c9,c10])(u0 u1 u2 u3 u4 u5 u6 u7 u8 u9 wV:acK):aD (uF W g u0 u1 u2 u3 u4 u5 u6 u7 u8 u9 wV) g ty #[u0,u1,u2,u3,u4,u5,u6,u7,u8,u9,wV]:=by
 have h:=((((((((((h.bB 0 u0).bB 1 u1).bB 2 u2).bB 3 u3).bB 4 u4).bB 5 u5).bB 6 u6).bB 7 u7).bB 8 u8).bB 9 u9).bB 10 wV;simp only[List.setIfInBounds_toArray,List.set_cons_zero,List.set_cons_succ]at h;exact h
def mr (W:acL)(g:Nat)(u0 u1 u2 u3 u4 u5 u6 u7 u8 u9 wV:acK):aP (λn=>n=g) W (uF W g u0 u1 u2 u3 u4 u5 u6 u7 u8 u9 wV) :=
 (((((((((((aP.set (F:=λn=>n=g) W (p:=⟨g,0,none⟩) rfl u0).setCell (p:=⟨g,1,none⟩) (ack rfl) u1).setCell (p:=⟨g,2,none⟩) (ack rfl) u2).setCell (p:=⟨g,3,none⟩) (ack rfl) u3).setCell (p:=⟨g,4,none⟩) (ack rfl) u4).setCell (p:=⟨g,5,none⟩) (ack rfl) u5).setCell (p:=⟨g,6,none⟩) (ack rfl) u6).setCell (p:=⟨g,7,none⟩) (ack rfl) u7).setCell (p:=⟨g,8,none⟩) (ack rfl) u8).setCell (p:=⟨g,9,none⟩) (ack rfl) u9).setCell (p:=⟨g,10,none⟩) (ack rfl) wV)
variable{O:Array acK}
def Bx.uF {x y r:Nat}{C:Nat->acK}{W:acL}(h:Bx x y r C O W)(hn:x≠g/\y≠g/\r≠g)(u0 u1 u2 u3 u4 u5 u6 u7 u8 u9 wV:acK):Bx x y r C O (lw.uF W g u0 u1 u2 u3 u4 u5 u6 u7 u8 u9 wV) :=
 ⟨h.x.aJ (mr _ _ _ _ _ _ _ _ _ _ _ _ _) hn.1,h.y.aJ (mr _ _ _ _ _ _ _ _ _ _ _ _ _) hn.2.1,h.r.aJ (mr _ _ _ _ _ _ _ _ _ _ _ _ _) hn.2.2⟩
def JG (h:PQ aA w q K p'){cs:Array acK}(hb:aD w g 29 cs)(hg:aA<=g)(hn:¬KQ K q g)(u0 u1 u2 u3 u4 u5 u6 u7 u8 u9 wV:acK):PQ aA (uF w g u0 u1 u2 u3 u4 u5 u6 u7 u8 u9 wV) q K p' :=
 h.aJ (mr _ _ _ _ _ _ _ _ _ _ _ _ _) (λn e=>by rw[e];exact Loose.blk hg hb) (λn hk e=>hn (ack (by rw[<-e];exact hk))) (λe=>hn (acm e.symm))
def oZ {i':PI.bF}{k:Nat}{out:Int×DF}(h:(out.1≠0/\i'=PI.none_/\p'=p)\/(out.1=0/\Fl p' 3 (bW is k i') (fsUp Fs k out.2)/\(i'.aL=(is k).aL/\i'.links=(is k).links/\i'.size=out.2.size)/\(p'.T=p.T/\p'.P=p.P/\p'.I=p.I/\(p'.B,p'.G)=(p.B,p.G)))):i'.direct.length=6:=by
 rcases h with⟨_,rfl,_⟩|⟨_,h,_⟩;rfl;have:=h.fam.six k;rwa[aS]at this
variable{x y r k:Nat}{C:Nat->acK}{O:Array acK}{out:Int×DF}{W w5:acL}{k' l' s' e0 e1 e2 e3 e4 e5 g' b':Nat}
abbrev ZY (p p':Po)(is:Nat->PI.bF)(Fs:Nat->DF)(k:Nat)(out:Int×DF)(i':PI.bF):Prop:=(out.1≠0/\i'=PI.none_/\p'=p) \/
  (out.1=0/\Fl p' 3 (bW is k i') (fsUp Fs k out.2)/\(i'.aL=(is k).aL/\i'.links=(is k).links/\i'.size=out.2.size)/\(p'.T=p.T/\p'.P=p.P/\p'.I=p.I/\(p'.B,p'.G)=(p.B,p.G)))
def ZZ (hbx:Bx x y r C O W)(hnk:(¬KQ K q x/\¬KQ K q y/\¬KQ K q r)/\aA<=x)(hgo:bG aA W.drew q K w5 K' p')(hcs:ZY p p' is Fs k out ⟨k',l',s',[e0,e1,e2,e3,e4,e5],g',b'⟩) :
  (aD w5 x 37 (aI C)/\aD w5 y 48 O)/\(aD (w5.alloc zI) x 37 (aI C)/\aD (w5.alloc zI) y 48 O) /\
  (aD (w5.alloc (ach (iV k' l' s' e0 e1 e2 e3 e4 e5 g' b') 29)) x 37 (aI C)/\aD (w5.alloc (ach (iV k' l' s' e0 e1 e2 e3 e4 e5 g' b') 29)) y 48 O) /\
  Mid aA W q K p is Fs k x y r C O out (ptr w5.heap.size) (vi out.1) (w5.alloc (ach (iV k' l' s' e0 e1 e2 e3 e4 e5 g' b') 29)):=by
 have hrg:gF W q K w5 K':=(gF.aX au).trans (gF.fA hgo);obtain⟨h5,GV⟩:=hbx.go hrg hnk.1;have h6:=h5.alloc zI;have h7:=h5.alloc (ach (iV k' l' s' e0 e1 e2 e3 e4 e5 g' b') 29);have hb:=(ac3 _ w5).alloc aj (ach (iV k' l' s' e0 e1 e2 e3 e4 e5 g' b') 29);exact⟨⟨h5.x,h5.y⟩,⟨h6.x,h6.y⟩,⟨h7.x,h7.y⟩,w5.heap.size,⟨k',l',s',[e0,e1,e2,e3,e4,e5],g',b'⟩,K',p',rfl,rfl,rfl,aD.new w5 _ _,h7,hrg.old hb,hgo.at_.old hb,GV,hcs⟩
def Z0 (hbx:Bx x y r C O W)(hnk:(¬KQ K q x/\¬KQ K q y/\¬KQ K q r)/\aA<=x)(hK:∀n,KQ K q n->n<W.heap.size)(hgo:bG aA (W.alloc zI).drew q K w5 K' p')(hcs:ZY p p' is Fs k out ⟨k',l',s',[e0,e1,e2,e3,e4,e5],g',b'⟩) :
  (aD w5 x 37 (aI C)/\aD w5 y 48 O)/\aD w5 W.heap.size 29 #[vi 0,vi 0,vi 0,vi 0,vi 0,vi 0,vi 0,vi 0,vi 0,vi 0,vi 0] /\
  (aD (uF w5 W.heap.size (vi k') (vi l') (vi s') (vi e0) (vi e1) (vi e2) (vi e3) (vi e4) (vi e5) (vi g') (vi b')) x 37 (aI C)/\aD (uF w5 W.heap.size (vi k') (vi l') (vi s') (vi e0) (vi e1) (vi e2) (vi e3) (vi e4) (vi e5) (vi g') (vi b')) y 48 O) /\
  Mid aA W q K p is Fs k x y r C O out (ptr W.heap.size) (vi out.1) (uF w5 W.heap.size (vi k') (vi l') (vi s') (vi e0) (vi e1) (vi e2) (vi e3) (vi e4) (vi e5) (vi g') (vi b')):=by
 have hbel:acN W.heap.size W (W.alloc zI).drew:=((ac3 _ W).alloc aj _).drew;have hrg:gF W q K w5 K':=(gF.aX hbel).trans (gF.fA hgo);obtain⟨h5,GV⟩:=hbx.go hrg hnk.1;have hlt:=hbx.lt;have VK:aD (W.alloc zI).drew W.heap.size 29 #[vi 0,vi 0,vi 0,vi 0,vi 0,vi 0,vi 0,vi 0,vi 0,vi 0,vi 0]:=aD.new W _ _;obtain⟨hblk,QX⟩:=(gF.fA hgo).blk VK (λe=>by have:=hK _ e;omega);have h7:=h5.uF (g:=W.heap.size) aa (vi k') (vi l') (vi s') (vi e0) (vi e1) (vi e2) (vi e3) (vi e4) (vi e5) (vi g') (vi b');refine⟨⟨h5.x,h5.y⟩,hblk,⟨h7.x,h7.y⟩,W.heap.size,⟨k',l',s',[e0,e1,e2,e3,e4,e5],g',b'⟩,K',p',rfl,rfl,rfl,EG hblk (vi k') (vi l') (vi s') (vi e0) (vi e1) (vi e2) (vi e3) (vi e4) (vi e5) (vi g') (vi b'),h7,?_,JG hgo.at_ hblk (abX hnk.2 (Nat.le_of_lt hlt.1)) QX (vi k') (vi l') (vi s') (vi e0) (vi e1) (vi e2) (vi e3) (vi e4) (vi e5) (vi g') (vi b'),GV,hcs⟩
 exact⟨hrg.aJ.trans (mr _ _ (vi k') (vi l') (vi s') (vi e0) (vi e1) (vi e2) (vi e3) (vi e4) (vi e5) (vi g') (vi b')) (λn hn e=>aa),hrg.foot⟩
variable{w6 V:acL}{s2 N2 cp2 qz g2:Nat}{qx qy:Option Addr}{KK:Nat->Prop}
abbrev New (W V:acL)(KK:Nat->Prop):Nat->Prop:=λn=>n<V.heap.size/\¬n<W.heap.size\/KK n
def Doc (W:acL)(KK:Nat->Prop)(out:Int×DF)(v9 v10:acK)(wx:acL):Prop:=∃(g2:Nat) (R2:RF),v9=ptr g2/\v10=vi out.1/\aD wx g2 34 #[vi 64,vi R2.s,aco R2.ap R2.N R2.cp,aco R2.ab R2.N R2.cb]/\jo wx KK out.2 R2/\acN W.heap.size W wx
def afn (hbx:Bx x y r C O W)(hb:acN W.drew.heap.size W.drew w5):acN W.heap.size W w5/\(aD w5 x 37 (aI C)/\aD w5 y 48 O)/\(aD (w5.alloc zD) x 37 (aI C)/\aD (w5.alloc zD) y 48 O):=by
 have h:acN W.heap.size W w5:=(ac3 _ W).drew.trans hb;have h5:=hbx.old h;exact⟨h,⟨h5.x,h5.y⟩,h5.x.alloc _,h5.y.alloc _⟩
def afo (hbx:Bx x y r C O W)(hb:acN (W.alloc zD).drew.heap.size (W.alloc zD).drew w5):acN W.heap.size W w5/\(aD w5 x 37 (aI C)/\aD w5 y 48 O)/\aD w5 W.heap.size 34 #[vi 0,vi 0,aco none 0 0,aco none 0 0]:=by
 have hb0:acN W.heap.size W (W.alloc zD).drew:=((ac3 _ W).alloc aj _).drew;have h:acN W.heap.size W w5:=hb0.trans (hb.mono hb0.size);have h5:=hbx.old h;exact⟨h,⟨h5.x,h5.y⟩,(aD.drew (aD.new W _ _)).old hb⟩
def Z4 (hbx:Bx x y r C O W)(hb5:acN W.heap.size W V)(hb:acN V.heap.size V w6)(hR:jo w6 (New W V KK) out.2 ⟨s2,qx,N2,cp2,qy,qz⟩) :
  (aD w6 x 37 (aI C)/\aD w6 y 48 O)/\(aD (w6.alloc zD) x 37 (aI C)/\aD (w6.alloc zD) y 48 O)/\(aD (w6.alloc (ach (dV s2 qx N2 cp2 qy qz) 34)) x 37 (aI C)/\aD (w6.alloc (ach (dV s2 qx N2 cp2 qy qz) 34)) y 48 O) /\
  Doc W KK out (ptr w6.heap.size) (vi out.1) (w6.alloc (ach (dV s2 qx N2 cp2 qy qz) 34)):=by
 have h:acN W.heap.size W w6:=hb5.trans (hb.mono hb5.size);have h6:=hbx.old h;have ME:=(ac3 _ w6).alloc aj (ach (dV s2 qx N2 cp2 qy qz) 34);exact⟨⟨h6.x,h6.y⟩,⟨h6.x.alloc _,h6.y.alloc _⟩,⟨h6.x.alloc _,h6.y.alloc _⟩,w6.heap.size,⟨s2,qx,N2,cp2,qy,qz⟩,rfl,rfl,aD.new w6 _ _,⟨(hR.1.sub (λn e=>acm e)).old ME,hR.2⟩,h.trans (ME.mono h.size)⟩
def VL (hbx:Bx x y r C O W)(hb5:acN W.heap.size W V)(hg:aD V g2 34 #[vi 0,vi 0,aco none 0 0,aco none 0 0])(hgW:W.heap.size<=g2)(hb:acN V.heap.size V w6)(hR:jo w6 (New W V KK) out.2 ⟨s2,qx,N2,cp2,qy,qz⟩) :
  (aD w6 x 37 (aI C)/\aD w6 y 48 O)/\(aD (Dy w6 g2 (vi 64) (vi s2) (aco qx N2 cp2) (aco qy N2 qz)) x 37 (aI C)/\aD (Dy w6 g2 (vi 64) (vi s2) (aco qx N2 cp2) (aco qy N2 qz)) y 48 O)/\aD w6 g2 34 #[vi 0,vi 0,aco none 0 0,aco none 0 0] /\
  Doc W KK out (ptr g2) (vi out.1) (Dy w6 g2 (vi 64) (vi s2) (aco qx N2 cp2) (aco qy N2 qz)):=by
 have h:acN W.heap.size W w6:=hb5.trans (hb.mono hb5.size);have h6:=hbx.old h;have hlt:=hbx.lt;have uy:=hg.old hb;have hc:=oP w6 g2 (vi 64) (vi s2) (aco qx N2 cp2) (aco qy N2 qz);refine⟨⟨h6.x,h6.y⟩,⟨h6.x.aJ hc aa,h6.y.aJ hc aa⟩,uy,g2,⟨s2,qx,N2,cp2,qy,qz⟩,rfl,rfl,?_,⟨(hR.1.jg (ack ⟨hg.lt,aa⟩) hc).sub (λn e=>acm e),hR.2⟩,h.trans (hc.dX (λn _ e=>by rw[e];exact hgW) h.size)⟩;exact(((uy.bB 0 (vi 64)).bB 1 (vi s2)).bB 2 (aco qx N2 cp2)).bB 3 (aco qy N2 qz)
def zY (h:dL aA w q K p is Fs D t a e Z)(hx:x=w.heap.size){c:Code}{P:Program}{Q:Exit->Act->acL->Prop}{A:Act}
  (g:∀W y r,y=x+1->r=x+1+1->Hid (acN w.heap.size w W)->Hid (dL aA W q K p is Fs D t a e Z)->Hid (Bx x y r (aO q is D) O W)->Hid ((¬KQ K q x/\¬KQ K q y/\¬KQ K q r)/\r≠x/\r≠y/\aA<=x)->Hid (r<W.heap.size)->Hid (w.heap.size<=r)->c.wp P Q A W) :
  c.wp P Q A (((w.alloc (ach (aI (aO q is D)) 37)).alloc (ach O 48)).alloc (ach (aI jQ) 37)):=by
 obtain⟨W,hW,hB,h1,h2,h3⟩:=acj w (aI (aO q is D)) O (aI jQ) 37 48 37;rw[<-hW];have k1:=h.ZW;have k2:=h.pq.low;rw[<-hx]at h1 h2 h3;exact g W _ _ rfl rfl (az hB) (az (h.old hB)) (az ⟨h1,h2,h3⟩) (az ⟨⟨λe=>by have:=k1 _ e;omega,λe=>by have:=k1 _ e;omega,λe=>by have:=k1 _ e;omega⟩,aa,aa,aa⟩) (az h3.lt) (az aa)
def Ma (h:dL aA w q K p is Fs D t a e Z)(o:eQ)(ho:o.ok aA w)(hk:o.aL=1):ac4 prog 17 #[adA (aI (aO q is D)),adA o.cs.toArray] w (rZ aA w q K p is Fs D t a e Z (file3 o.file)):=by
 obtain⟨aL,file,aF,n,ba,l,bc⟩:=o;dsimp only at hk;subst hk;have H:=az h;have HO:=az ho;obtain⟨hk3,C9⟩:=file3_lt file;obtain⟨k,hkk⟩:∃k,k=file3 file:=⟨_,rfl⟩;show ac4 _ _ #[_,adA #[vi 1,vi file,vi aF,vi n,aco ba l.length bc]] _ (rZ aA w q K p is Fs D t a e Z (file3 file));rw[<-hkk]at hk3 C9 ⊢;have uE:=az hk3;clear h ho hkk;go_in;go_upto_region 1 with fail;obtain⟨x,hx⟩:∃x,x=w.heap.size:=⟨_,rfl⟩;refine zY H.o hx λW y r hy hr HB HR1 nk wW HRL YG=>?_
 rw[<-hx,<-hr,<-hy];clear hx hy hr;have y1:W.cell? ⟨y,1,none⟩=some (vi file):=nk.o.y.cell 1;have y0:W.cell? ⟨y,0,none⟩=some (vi 1):=nk.o.y.cell 0;go_wp2_with fail;refine(mf file 3 W aa aa).mono ?_;rintro e1 W1 ⟨rfl,rfl⟩;rw[C9];clear C9;go_upto_region 4 with fail;obtain⟨kd,ln,sz,d0,d1,d2,d3,d4,d5,sg,db,hik⟩:=oW is k (H.o.fl.fam.six k);have hi:=wP (q:=q) (D:=D) (x:=x) uE.o hik;have hy:∀W',aD W' y 48 #[vi 1,vi file,vi aF,vi n,aco ba l.length bc]->W'.cell? ⟨y,2,none⟩=some (vi aF)/\W'.cell? ⟨y,4,none⟩=some (aco ba l.length bc):=λW' hb=>⟨hb.cell 2,hb.cell 4⟩
 have JZ:Hid (∀V,acN W1.heap.size W1 V->ac4 prog 12 #[ptr q,adA #[vi kd,vi ln,vi sz,vi d0,vi d1,vi d2,vi d3,vi d4,vi d5,vi sg,vi db],vi aF,aco ba l.length bc] V (kW aA V q K p is Fs k (kV (Fs k) aF l p.aK))):=az (λV hb=>by
  have h:=p9 (HR1.o.old hb) k uE.o aF ba l bc ((HO.o.row.old HB.o).old hb) HO.o.len
  rw[hik]at h
  exact h)
 have Mc:=az (JZ.o _ (ac3 _ W1).drew);have Me:=az (JZ.o _ (((ac3 _ W1).alloc aj zI).drew));obtain⟨out,hout⟩:∃out,out=kV (Fs k) aF l p.aK:=⟨_,rfl⟩;rw[<-hout]at Mc Me;have Mf:=az hout;clear hout hik JZ y0 y1;have n1:(k:Int)<3:=by have:=uE.o;omega
 have GU:Hid (aD (W1.alloc zI).drew x 37 (aI (aO q is D))/\aD (W1.alloc zI).drew y 48 #[vi 1,vi file,vi aF,vi n,aco ba l.length bc]):=az ⟨nk.o.x.drew.alloc _,nk.o.y.drew.alloc _⟩;have uG:Hid (aD W1.drew x 37 (aI (aO q is D))/\aD W1.drew y 48 #[vi 1,vi file,vi aF,vi n,aco ba l.length bc]):=az ⟨nk.o.x,nk.o.y⟩;go_cut [7,8] from 27 to 145 (λv7 v8 wx=>Hid (Mid aA W1 q K p is Fs k x y r (aO q is D) #[vi 1,vi file,vi aF,vi n,aco ba l.length bc] out v7 v8 wx))
 case first =>
  go_region_held3 (λW'=>aD W' x 37 (aI (aO q is D))/\aD W' y 48 #[vi 1,vi file,vi aF,vi n,aco ba l.length bc])
   (with_reducible (first|exact uG.o|exact GU.o|exact mY.o|exact xG.o|exact mZ.o|fail))
   (first
    |(go_at_call 12;refine Mc.o.mono ?_;rintro e5 w5 ⟨i',K',p',rfl,hgo,hcs⟩;have h6:=oZ hcs;obtain⟨k',l',s',Qw,g',b'⟩:=i';obtain⟨e0,e1,e2,e3,e4,e5,rfl⟩:=six (l:=Qw) h6;simp only[dS,j4];obtain⟨hs5,hs6,hs7,hm⟩:=ZZ nk.o ⟨wW.o.1,wW.o.2.2.2⟩ hgo hcs;have mY:=az hs5;have xG:=az hs6;have mZ:=az hs7;have HM:=az hm;clear hs5 hs6 hs7 hm hgo hcs h6)
    |(go_at_call 12;refine Me.o.mono ?_;rintro e5 w5 ⟨i',K',p',rfl,hgo,hcs⟩;have h6:=oZ hcs;obtain⟨k',l',s',Qw,g',b'⟩:=i';obtain⟨e0,e1,e2,e3,e4,e5,rfl⟩:=six (l:=Qw) h6;simp only[dS,j4];obtain⟨hs5,hbk,hs7,hm⟩:=Z0 nk.o ⟨wW.o.1,wW.o.2.2.2⟩ HR1.o.ZW hgo hcs;have mY:=az hs5;have mZ:=az hs7;have HM:=az hm;obtain⟨b0,b1,b2,b3,b4,b5,b6,b7,b8,b9,b10⟩:=nK hbk;have z0:=hbk.frozen 0;have z1:=hbk.frozen 1;have z2:=hbk.frozen 2;have z3:=hbk.frozen 3;have z4:=hbk.frozen 4;have z5:=hbk.frozen 5;have z6:=hbk.frozen 6;have z7:=hbk.frozen 7;have z8:=hbk.frozen 8;have z9:=hbk.frozen 9;have Ui:=hbk.frozen 10;clear hs5 hbk hs7 hm hgo hcs h6))
  all_goals
   go_wp2;go_meet;exact HM
 case rest =>
 obtain⟨g,i',K',p',rfl,rfl,h6',hblk,hbx,hrg,hpq,hnq,hcs⟩:=hcut.o;have HG:=az hblk;have H6:=az h6';have mX:=az hbx;have HRG:=az hrg;have zU:=az hpq;have SF:=az hcs;have HNQ:=az hnq;have hLT:∀n,KR K' q Z r n->n<wc.heap.size:=λn e=>e.elim (λe=>e.elim (λe=>e.elim (λe=>hpq.lt n e) (λe=>by rw[e];exact hpq.JV)) (λe=>HR1.o.zgo hrg.aJ.size n e)) (λe=>by rw[e];exact hbx.lt.2.2)
 have ig:=az hLT;have AR:Hid (p'.P=p.P):=az (by
  rcases hcs with⟨_,_,e⟩|⟨_,_,_,e⟩
  rw[e]
  exact e.2.1)
 have VM:Hid (∀j,j<3->jo wc (KR K' q Z r) (Fs j) (D j)):=az (λj hj=>H.o.dfr HB.o hrg YG.o j hj);have Dw:Hid (dx aA wc ba l):=az ((HO.o.row.old HB.o).fD hrg.aJ HR1.o.loose);clear hcut hblk h6' hbx hrg hpq hcs hLT nk uG GU Mc Me hi hnq;obtain⟨wm,hwm⟩:∃wm,wm=wc:=⟨_,rfl⟩;subst hwm;have hi:∀W' j,aD W' x 37 (aI (aO q is D))->j<46->W'.cell? ⟨x,j,none⟩=some (aO q is D j):=λW' j h=>(gu h).1 j;obtain⟨s1,yX,N1,xY,zB,zC,NQ⟩:∃s1 yX N1 xY zB zC,D k=⟨s1,yX,N1,xY,zB,zC⟩:=⟨_,_,_,_,_,_,rfl⟩;have HDK:=az NQ;have hf:=wQ (q:=q) (is:=is) (x:=x) uE.o HDK.o
 clear NQ;have yB:Hid (∀V,acN wm.heap.size wm V->ac4 prog 40 #[adA (aI (aO q is D))] V λe w'=>e=ab4 (vi p.aK)/\acN V.heap.size V w'):=az (λV hb=>by
  have h:=free_any (is:=is) (zU.o.old hb) (λj hj=>⟨((VM.o j hj).1).old hb,(VM.o j hj).2⟩)
  have e1:freeN p' Fs=p.aK:=by rw[HR1.o.free];unfold freeN;rw[AR.o]
  rw[e1]at h
  exact h)
 have YH:=az (yB.o _ (ac3 _ wm).drew);have afr:=az (yB.o _ (((ac3 _ wm).alloc aj zD).drew));have HRW:Hid (∀V,acN wm.heap.size wm V->ac4 prog 39 #[adA #[vi 64,vi s1,aco yX N1 xY,aco zB N1 zC],vi aF,aco ba l.length bc,vi p.aK] V (DN V (New wm V (KR K' q Z r)) out)):=az (λV hb=>by
  have hR:=VM.o k uE.o
  rw[HDK.o]at hR
  have hR2:jo V (New wm V (KR K' q Z r)) (Fs k) ⟨s1,yX,N1,xY,zB,zC⟩:=⟨hR.1.aJ (aP.of_below hb) (λn e=>e.elim (λe=>acm aa) ack),hR.2⟩
  rw[Mf.o]
  exact L8 hR2 (λn e=>e.elim (λe=>e.1) (λe=>adN (ig.o n e) hb.size)) aF ba l bc p.aK (Dw.o.row.below hb))
 have uG:Hid (aD wm.drew x 37 (aI (aO q is D))/\aD wm.drew y 48 #[vi 1,vi file,vi aF,vi n,aco ba l.length bc]):=az ⟨mX.o.x,mX.o.y⟩;have GU:Hid (aD (wm.alloc zD).drew x 37 (aI (aO q is D))/\aD (wm.alloc zD).drew y 48 #[vi 1,vi file,vi aF,vi n,aco ba l.length bc]):=az ⟨mX.o.x.alloc _,mX.o.y.alloc _⟩;go_upto_region 5 with fail;go_cut [9,10] from 41 to 145 (λv9 v10 wx=>Hid (Doc wm (KR K' q Z r) out v9 v10 wx))
 case first =>
  refine agr (S:=λW'=>aD W' x 37 (aI (aO q is D))/\aD W' y 48 #[vi 1,vi file,vi aF,vi n,aco ba l.length bc]) ah (uG.o) (λhHeld=>?_);change wpAnyH _ _ _ _ _ 17 #[false,false,false,false,false,false,false,false,false,false,false,false,false,false,false,false,false] _ wm.drew;refine tk 0 ?_;simp only[ay,afD];refine tk 1 ?_;simp only[ay,afD];refine tk 2 ?_;simp only[ay,afD]
  refine tk 3 ?_;simp only[ay,afD];refine tk 4 ?_;simp only[ay,afD];refine tk 5 ?_;simp only[ay,afD];refine tk 6 ?_;simp only[ay,afD];refine tk 7 ?_;simp only[ay,afD];refine tkr 8 (agq 2) (λ_ h=>h.1) ?_;simp only[ay,afD]
  refine rd2 9 14 (λK hK=>?_) (λK hK=>?_)
  ·go_simp;go_at_call 40;refine YH.o.mono ?_;rintro e5 w5 ⟨rfl,hb5⟩;obtain⟨hb,hs5,hs6⟩:=afn mX.o hb5;have qG:=az hb;have mY:=az hs5;have xG:=az hs6;have YI:=az (HRW.o _ hb);have YJ:=az (HRW.o _ (hb.alloc hb.size zD));clear hb hb5 hs5 hs6;go_wp2_with fail;refine hK.out _ _ (mY.o) (λ_=>?_);clear hK K;simp only[ay,afD];refine rd2 10 14 (λK hK=>?_) (λK hK=>?_)
   ·go_simp;go_at_call 39;refine YI.o.mono ?_;rintro e6 w6 ⟨⟨s2,qx,N2,cp2,qy,qz⟩,rfl,hR,hb6⟩;obtain⟨hs7,NR,hs9,hm⟩:=Z4 mX.o qG.o hb6 hR;have mZ:=az hs7;have mV:=az NR;have ZE:=az hs9;have HM:=az hm;clear hs7 NR hs9 hm hR hb6;go_wp2_with fail;refine hK.out _ _ (mZ.o) (λ_=>?_);clear hK K;simp only[ay,afD];refine tk 11 ?_;simp only[ay,afD];refine tk 12 ?_;simp only[ay,afD]
    refine tk 13 ?_;simp only[ay,afD];refine rW 14 λK hK=>?_
    go_simp;refine hK.out _ _ (mV.o) (λ_=>?_);clear hK K;simp only[ay,afD];refine rW 15 λK hK=>?_
    go_simp;refine hK.out _ _ (ZE.o) (λ_=>?_);clear hK K;simp only[ay,afD];refine rW 16 λK hK=>?_
    go_simp;refine hK.out _ _ (ZE.o) (λ_=>?_);clear hK K;simp only[ay,afD];refine ags ah ?_ _;clear hHeld;go_wp2;go_meet;exact HM
   go_simp;refine hK.out _ _ (xG.o) (λ_=>?_);clear hK K;simp only[ay,afD];refine rW 10 λK hK=>?_
   go_simp;go_at_call 39;refine YJ.o.mono ?_;rintro e6 w6 ⟨⟨s2,qx,N2,cp2,qy,qz⟩,rfl,hR,hb6⟩;obtain⟨hs7,NR,hbk,hm⟩:=VL mX.o (qG.o.alloc qG.o.size zD) (aD.new w5 _ _) qG.o.size hb6 hR;have mZ:=az hs7;have mV:=az NR;have HM:=az hm;obtain⟨⟨b0,b1,b2,b3⟩,z0,z1,z2,z3⟩:=lG hbk;clear hs7 NR hm hR hb6 hbk;go_wp2_with fail;refine hK.out _ _ (mZ.o) (λ_=>?_);clear hK K;simp only[ay,afD];refine tk 11 ?_;simp only[ay,afD];refine tk 12 ?_;simp only[ay,afD]
   refine tk 13 ?_;simp only[ay,afD];refine rW 15 λK hK=>?_
   go_simp;refine hK.out _ _ (mV.o) (λ_=>?_);clear hK K;simp only[ay,afD];refine rW 16 λK hK=>?_
   go_simp;refine hK.out _ _ (mV.o) (λ_=>?_);clear hK K;simp only[ay,afD];refine ags ah ?_ _;clear hHeld;go_wp2;go_meet;exact HM
  go_simp;refine hK.out _ _ (GU.o) (λ_=>?_);clear hK K;simp only[ay,afD];refine rW 9 λK hK=>?_
  go_simp;go_at_call 40;refine afr.o.mono ?_;rintro e5 w5 ⟨rfl,hb5⟩;obtain⟨hb,hs5,hbk⟩:=afo mX.o hb5;have qG:=az hb;have mY:=az hs5;have HBK:=az hbk;have ajy:=az (HRW.o _ hb);clear hb hb5 hs5 hbk;go_wp2_with fail;refine hK.out _ _ (mY.o) (λ_=>?_);clear hK K;simp only[ay,afD];refine rW 10 λK hK=>?_
  go_simp;go_at_call 39;refine ajy.o.mono ?_;rintro e6 w6 ⟨⟨s2,qx,N2,cp2,qy,qz⟩,rfl,hR,hb6⟩;obtain⟨hs7,NR,hbk,hm⟩:=VL mX.o qG.o HBK.o aj hb6 hR;have mZ:=az hs7;have mV:=az NR;have HM:=az hm;obtain⟨⟨b0,b1,b2,b3⟩,z0,z1,z2,z3⟩:=lG hbk;clear hs7 NR hm hR hb6 hbk;go_wp2_with fail;refine hK.out _ _ (mZ.o) (λ_=>?_);clear hK K;simp only[ay,afD];refine tk 11 ?_;simp only[ay,afD];refine tk 12 ?_;simp only[ay,afD]
  refine tk 13 ?_;simp only[ay,afD];refine rW 15 λK hK=>?_
  go_simp;refine hK.out _ _ (mV.o) (λ_=>?_);clear hK K;simp only[ay,afD];refine rW 16 λK hK=>?_
  go_simp;refine hK.out _ _ (mV.o) (λ_=>?_);clear hK K;simp only[ay,afD];refine ags ah ?_ _;clear hHeld;go_wp2;go_meet;exact HM
 case rest =>
 obtain⟨g2,R2,rfl,rfl,hb2,hR2,hbel⟩:=hcut.o;obtain⟨s2,qx,N2,cp2,qy,qz⟩:=R2;have uz:=az hbel;have DR:=az (mX.o.old hbel);have HR2:=az hR2;have hG:=HG.o.old hbel;obtain⟨k',l',s',Qw,g',b'⟩:=i';obtain⟨e0,e1,e2,e3,e4,e5,he6⟩:=six (l:=Qw) H6.o;subst he6;simp only[j4]at hG;have Ll:Hid (ac4 prog 41 #[adA (aI (aO q is D)),vi k,adA (iV k' l' s' e0 e1 e2 e3 e4 e5 g' b'),adA (dV s2 qx N2 cp2 qy qz),vi out.1,vi out.1] wc (NN wc q p p' is Fs D k out ⟨k',l',s',[e0,e1,e2,e3,e4,e5],g',b'⟩ ⟨s2,qx,N2,cp2,qy,qz⟩)):=az (pW uE.o (H.o.ino k uE.o) H6.o hR2.2 SF.o)
 obtain⟨i0,i1,i2,i3,i4,i5,i6,i7,i8,i9,i10⟩:=nK hG;obtain⟨⟨c0,c1,c2,c3⟩,_⟩:=lG hb2;have HXL:=az DR.o.x;clear hcut hb2 hR2 hbel hG hi hf yB YH afr HRW uG GU n1 hy;obtain⟨er,her⟩:∃er,er=out.1:=⟨_,rfl⟩;rw[<-her]at Ll ⊢;clear her;go_wp2_with (refine mq rfl (agq 2) rfl rfl HXL.o ?_);refine Ll.o.mono ?_;intro e7 w7 ht;have tZ:acN wc.heap.size wc w7:=by obtain⟨_,_,_,_,h,_⟩:=ht;exact h
 have El:=DR.o.r.old tZ;obtain⟨is',D',rfl,hrb,hst⟩:=step_end H.o HB.o HRG.o zU.o uE.o YG.o HRL.o HNQ.o.2.2 HR2.o uz.o ht El rfl;have Bz:=az El;have H1:=az (fu q is' D');have vN:=az hrb;have HST:=az hst;clear ht tZ El hrb hst i0 i1 i2 i3 i4 i5 i6 i7 i8 i9 i10 c0 c1 c2 c3;go_wp2_with (refine ko rfl (agq 4) (agq 62) rfl rfl rfl Bz.o rfl H1.o ?_);exact ac5 (kX vN.o _ rfl rfl) rfl HST.o
end
section
variable{aA:Nat}{w:acL}{q:Nat}{K K':Nat->Prop}{p p':Po}{is is':Nat->PI.bF}{Fs:Nat->DF}{D D':Nat->RF}{t a e:Nat}{Z:Nat->Prop}
def Mh (h:dL aA w q K p is Fs D t a e Z)(o:eQ)(ho:o.ok aA w)(hk:o.aL=2):ac4 prog 17 #[adA (aI (aO q is D)),adA o.cs.toArray] w (rZ aA w q K p is Fs D t a e Z (file3 o.file)):=by
 obtain⟨aL,file,aF,n,ba,l,bc⟩:=o;dsimp only at hk;subst hk;have H:=az h;obtain⟨hk3,C9⟩:=file3_lt file;obtain⟨k,hkk⟩:∃k,k=file3 file:=⟨_,rfl⟩;show ac4 _ _ #[_,adA #[vi 2,vi file,vi aF,vi n,aco ba l.length bc]] _ (rZ aA w q K p is Fs D t a e Z (file3 file));rw[<-hkk]at hk3 C9 ⊢;have uE:=az hk3;clear h ho hkk;go_in;go_upto_region 1 with fail;obtain⟨x,hx⟩:∃x,x=w.heap.size:=⟨_,rfl⟩;refine zY H.o hx λW y r hy hr HB HR1 nk wW HRL YG=>?_
 rw[<-hx,<-hr,<-hy];clear hx hy hr;have y1:W.cell? ⟨y,1,none⟩=some (vi file):=nk.o.y.cell 1;have y0:W.cell? ⟨y,0,none⟩=some (vi 2):=nk.o.y.cell 0;go_wp2_with fail;refine(mf file 3 W aa aa).mono ?_;rintro e1 W1 ⟨rfl,rfl⟩;rw[C9];clear C9;go_upto_region 8 with fail;obtain⟨kd,ln,sz,d0,d1,d2,d3,d4,d5,sg,db,hik⟩:=oW is k (H.o.fl.fam.six k);have hi:=wP (q:=q) (D:=D) (x:=x) uE.o hik;have hy:∀W',aD W' y 48 #[vi 2,vi file,vi aF,vi n,aco ba l.length bc]->W'.cell? ⟨y,2,none⟩=some (vi aF):=λW' hb=>hb.cell 2
 have JZ:Hid (∀V,acN W1.heap.size W1 V->ac4 prog 23 #[ptr q,adA #[vi kd,vi ln,vi sz,vi d0,vi d1,vi d2,vi d3,vi d4,vi d5,vi sg,vi db],vi aF] V (kW aA V q K p is Fs k (outT (Fs k) aF))):=az (λV hb=>by
  have h:=Cz (HR1.o.old hb) k uE.o aF
  rw[hik]at h
  exact h)
 have Mc:=az (JZ.o _ (ac3 _ W1).drew);have Me:=az (JZ.o _ (((ac3 _ W1).alloc aj zI).drew));obtain⟨out,hout⟩:∃out,out=outT (Fs k) aF:=⟨_,rfl⟩;rw[<-hout]at Mc Me;have Mf:=az hout;clear hout hik JZ y0 y1;have n1:(k:Int)<3:=by have:=uE.o;omega
 have GU:Hid (aD (W1.alloc zI).drew x 37 (aI (aO q is D))/\aD (W1.alloc zI).drew y 48 #[vi 2,vi file,vi aF,vi n,aco ba l.length bc]):=az ⟨nk.o.x.drew.alloc _,nk.o.y.drew.alloc _⟩;have uG:Hid (aD W1.drew x 37 (aI (aO q is D))/\aD W1.drew y 48 #[vi 2,vi file,vi aF,vi n,aco ba l.length bc]):=az ⟨nk.o.x,nk.o.y⟩;go_cut [11,12] from 66 to 145 (λv7 v8 wx=>Hid (Mid aA W1 q K p is Fs k x y r (aO q is D) #[vi 2,vi file,vi aF,vi n,aco ba l.length bc] out v7 v8 wx))
 case first =>
  go_region_held3 (λW'=>aD W' x 37 (aI (aO q is D))/\aD W' y 48 #[vi 2,vi file,vi aF,vi n,aco ba l.length bc])
   (with_reducible (first|exact uG.o|exact GU.o|exact mY.o|exact xG.o|exact mZ.o|fail))
   (first
    |(go_at_call 23;refine Mc.o.mono ?_;rintro e5 w5 ⟨i',K',p',rfl,hgo,hcs⟩;have h6:=oZ hcs;obtain⟨k',l',s',Qw,g',b'⟩:=i';obtain⟨e0,e1,e2,e3,e4,e5,rfl⟩:=six (l:=Qw) h6;simp only[dS,j4];obtain⟨hs5,hs6,hs7,hm⟩:=ZZ nk.o ⟨wW.o.1,wW.o.2.2.2⟩ hgo hcs;have mY:=az hs5;have xG:=az hs6;have mZ:=az hs7;have HM:=az hm;clear hs5 hs6 hs7 hm hgo hcs h6)
    |(go_at_call 23;refine Me.o.mono ?_;rintro e5 w5 ⟨i',K',p',rfl,hgo,hcs⟩;have h6:=oZ hcs;obtain⟨k',l',s',Qw,g',b'⟩:=i';obtain⟨e0,e1,e2,e3,e4,e5,rfl⟩:=six (l:=Qw) h6;simp only[dS,j4];obtain⟨hs5,hbk,hs7,hm⟩:=Z0 nk.o ⟨wW.o.1,wW.o.2.2.2⟩ HR1.o.ZW hgo hcs;have mY:=az hs5;have mZ:=az hs7;have HM:=az hm;obtain⟨b0,b1,b2,b3,b4,b5,b6,b7,b8,b9,b10⟩:=nK hbk;have z0:=hbk.frozen 0;have z1:=hbk.frozen 1;have z2:=hbk.frozen 2;have z3:=hbk.frozen 3;have z4:=hbk.frozen 4;have z5:=hbk.frozen 5;have z6:=hbk.frozen 6;have z7:=hbk.frozen 7;have z8:=hbk.frozen 8;have z9:=hbk.frozen 9;have Ui:=hbk.frozen 10;clear hs5 hbk hs7 hm hgo hcs h6))
  all_goals
   go_wp2;go_meet;exact HM
 case rest =>
 obtain⟨g,i',K',p',rfl,rfl,h6',hblk,hbx,hrg,hpq,hnq,hcs⟩:=hcut.o;have HG:=az hblk;have H6:=az h6';have mX:=az hbx;have HRG:=az hrg;have zU:=az hpq;have SF:=az hcs;have HNQ:=az hnq;have hLT:∀n,KR K' q Z r n->n<wc.heap.size:=λn e=>e.elim (λe=>e.elim (λe=>e.elim (λe=>hpq.lt n e) (λe=>by rw[e];exact hpq.JV)) (λe=>HR1.o.zgo hrg.aJ.size n e)) (λe=>by rw[e];exact hbx.lt.2.2)
 have ig:=az hLT;have AR:Hid (p'.P=p.P):=az (by
  rcases hcs with⟨_,_,e⟩|⟨_,_,_,e⟩
  rw[e]
  exact e.2.1)
 have VM:Hid (∀j,j<3->jo wc (KR K' q Z r) (Fs j) (D j)):=az (λj hj=>H.o.dfr HB.o hrg YG.o j hj);clear hcut hblk h6' hbx hrg hpq hcs hLT nk uG GU Mc Me hi hnq;obtain⟨wm,hwm⟩:∃wm,wm=wc:=⟨_,rfl⟩;subst hwm;have hi:∀W' j,aD W' x 37 (aI (aO q is D))->j<46->W'.cell? ⟨x,j,none⟩=some (aO q is D j):=λW' j h=>(gu h).1 j;obtain⟨s1,yX,N1,xY,zB,zC,NQ⟩:∃s1 yX N1 xY zB zC,D k=⟨s1,yX,N1,xY,zB,zC⟩:=⟨_,_,_,_,_,_,rfl⟩;have HDK:=az NQ;have hf:=wQ (q:=q) (is:=is) (x:=x) uE.o HDK.o;clear NQ;have HRW:Hid (∀V,acN wm.heap.size wm V->ac4 prog 42 #[adA #[vi 64,vi s1,aco yX N1 xY,aco zB N1 zC],vi aF] V (DN V (New wm V (KR K' q Z r)) out)):=az (λV hb=>by
  have hR:=VM.o k uE.o
  rw[HDK.o]at hR
  have hR2:jo V (New wm V (KR K' q Z r)) (Fs k) ⟨s1,yX,N1,xY,zB,zC⟩:=⟨hR.1.aJ (aP.of_below hb) (λn e=>e.elim (λe=>acm aa) ack),hR.2⟩
  rw[Mf.o]
  exact L9 hR2 (λn e=>e.elim (λe=>e.1) (λe=>adN (ig.o n e) hb.size)) aF)
 have uG:Hid (aD wm.drew x 37 (aI (aO q is D))/\aD wm.drew y 48 #[vi 2,vi file,vi aF,vi n,aco ba l.length bc]):=az ⟨mX.o.x,mX.o.y⟩;have GU:Hid (aD (wm.alloc zD).drew x 37 (aI (aO q is D))/\aD (wm.alloc zD).drew y 48 #[vi 2,vi file,vi aF,vi n,aco ba l.length bc]):=az ⟨mX.o.x.alloc _,mX.o.y.alloc _⟩;have YI:=az (HRW.o _ (ac3 _ wm).drew);have YJ:=az (HRW.o _ (((ac3 _ wm).alloc aj zD).drew));go_upto_region 9 with fail;go_cut [13,14] from 78 to 145 (λv9 v10 wx=>Hid (Doc wm (KR K' q Z r) out v9 v10 wx))
 case first =>
  go_region_held3 (λW'=>aD W' x 37 (aI (aO q is D))/\aD W' y 48 #[vi 2,vi file,vi aF,vi n,aco ba l.length bc])
   (with_reducible (first|exact uG.o|exact GU.o|exact mZ.o|exact mV.o|exact ZE.o|fail))
   (first
    |(go_at_call 42;refine YI.o.mono ?_;rintro e6 w6 ⟨⟨s2,qx,N2,cp2,qy,qz⟩,rfl,hR,hb6⟩;obtain⟨hs7,NR,hs9,hm⟩:=Z4 mX.o (ac3 _ wm).drew hb6 hR;have mZ:=az hs7;have mV:=az NR;have ZE:=az hs9;have HM:=az hm;clear hs7 NR hs9 hm hR hb6)
    |(go_at_call 42;refine YJ.o.mono ?_;rintro e6 w6 ⟨⟨s2,qx,N2,cp2,qy,qz⟩,rfl,hR,hb6⟩;obtain⟨hs7,NR,hbk,hm⟩:=VL mX.o ((ac3 _ wm).alloc aj zD).drew (aD.drew (aD.new wm _ _)) aj hb6 hR;have mZ:=az hs7;have mV:=az NR;have HM:=az hm;obtain⟨⟨b0,b1,b2,b3⟩,z0,z1,z2,z3⟩:=lG hbk;clear hs7 NR hm hR hb6 hbk))
  all_goals
   go_wp2;go_meet;exact HM
 case rest =>
 obtain⟨g2,R2,rfl,rfl,hb2,hR2,hbel⟩:=hcut.o;obtain⟨s2,qx,N2,cp2,qy,qz⟩:=R2;have uz:=az hbel;have DR:=az (mX.o.old hbel);have HR2:=az hR2;have hG:=HG.o.old hbel;obtain⟨k',l',s',Qw,g',b'⟩:=i';obtain⟨e0,e1,e2,e3,e4,e5,he6⟩:=six (l:=Qw) H6.o;subst he6;simp only[j4]at hG;have Ll:Hid (ac4 prog 41 #[adA (aI (aO q is D)),vi k,adA #[vi k',vi l',vi s',vi e0,vi e1,vi e2,vi e3,vi e4,vi e5,vi g',vi b'],adA #[vi 64,vi s2,aco qx N2 cp2,aco qy N2 qz],vi out.1,vi out.1] wc (NN wc q p p' is Fs D k out ⟨k',l',s',[e0,e1,e2,e3,e4,e5],g',b'⟩ ⟨s2,qx,N2,cp2,qy,qz⟩)):=az (pW uE.o (H.o.ino k uE.o) H6.o hR2.2 SF.o)
 obtain⟨i0,i1,i2,i3,i4,i5,i6,i7,i8,i9,i10⟩:=nK hG;obtain⟨⟨c0,c1,c2,c3⟩,_⟩:=lG hb2;have HXL:=az DR.o.x;clear hcut hb2 hR2 hbel hG hi hf YI YJ HRW uG GU n1 hy;obtain⟨er,her⟩:∃er,er=out.1:=⟨_,rfl⟩;rw[<-her]at Ll ⊢;clear her;go_wp2_with (refine mq rfl (agq 2) rfl rfl HXL.o ?_);refine Ll.o.mono ?_;intro e7 w7 ht;have tZ:acN wc.heap.size wc w7:=by obtain⟨_,_,_,_,h,_⟩:=ht;exact h
 have El:=DR.o.r.old tZ;obtain⟨is',D',rfl,hrb,hst⟩:=step_end H.o HB.o HRG.o zU.o uE.o YG.o HRL.o HNQ.o.2.2 HR2.o uz.o ht El rfl;have Bz:=az El;have H1:=az (fu q is' D');have vN:=az hrb;have HST:=az hst;clear ht tZ El hrb hst i0 i1 i2 i3 i4 i5 i6 i7 i8 i9 i10 c0 c1 c2 c3;go_wp2_with (refine ko rfl (agq 4) (agq 95) rfl rfl rfl Bz.o rfl H1.o ?_);exact ac5 (kX vN.o _ rfl rfl) rfl HST.o
end
end lw
namespace pl
open RowKit mgr ft
variable{w w':acL}
def nX (a a':Option Addr)(l:List Nat)(c c':Nat)(w:acL)(h:bE w a l)(h':bE w a' l) :
  ac4 prog 14 #[aco a l.length c,aco a' l.length c'] w λe w'=>e=ab4 (acg true)/\w'=w:=by
 have h1:=run_text h c;have h2:=run_text h' c';clear h h';go_in;go_wp2;go_ret;exact⟨rfl,rfl⟩
end pl
namespace lw
open RowKit mgr ft ino po df
section
variable{aA:Nat}{w w':acL}{q:Nat}{K K':Nat->Prop}{p p':Po}{is:Nat->PI.bF}{Fs:Nat->DF}{D:Nat->RF}{t a e:Nat}{Z:Nat->Prop}
def jV (F:DF)(aF n:Int):List Nat×Int:=if aF<0\/n<0\/1024<n then ([],1) else (rd F aF.toNat (cnt F aF.toNat n.toNat),0)
def CB {F:DF}(h:F.ok)(aF n:Int):∀y∈(jV F aF n).1,y<256:=by
 intro y hy;unfold jV at hy;split at hy;simp at hy;unfold rd at hy;obtain⟨i,_,rfl⟩:=List.mem_map.1 hy;exact h.small _
def qc (aA:Nat)(w:acL)(q:Nat)(K:Nat->Prop)(p:Po)(l:List Nat)(er:Int)(en:Ending)(w':acL):Prop :=
 ∃(a:Option Addr) (c:Nat) (K':Nat->Prop),en=ab4 (adg #[aco a l.length c,vi er])/\bE w' a l/\bM aA w q K w' K' p
def EH (hq:PQ aA w q K p)(hf:Fl p 3 is Fs)(k:Nat)(aF n:Int):ac4 prog 13 #[ptr q,dS (is k),vi aF,vi n] w (qc aA w q K p (jV (Fs k) aF n).1 (jV (Fs k) aF n).2):=by
 have hsm:=CB (hf.ok k) aF n;by_cases hb:aF<0\/n<0\/1024<n;have:jV (Fs k) aF n=([],1):=by unfold jV;rw[if_pos hb]
 rw[this];refine(Qr q (is k) (hf.fam.six k) aF n hb).mono ?_;rintro e' w' ⟨rfl,hb⟩;exact⟨none,0,K,rfl,bE.nil _ _,bM.aX hq hb⟩;have ho:jV (Fs k) aF n=(rd (Fs k) aF.toNat (cnt (Fs k) aF.toNat n.toNat),0):=by unfold jV;rw[if_neg hb]
 rw[ho]at hsm ⊢;refine(VI hq hf k aF n aa aa aa).mono ?_;rintro e' w' ⟨v,K',rfl,hv,hr⟩;obtain⟨a',c',rfl,hrow,_⟩:=Own.row hv hsm;exact⟨a',c',K',rfl,hrow,hr⟩
def EI (h:dL aA w q K p is Fs D t a e Z)(k:Nat)(aF n:Int):ac4 prog 13 #[ptr q,dS (is k),vi aF,vi n] w (qc aA w q K p (jV (Fs k) aF n).1 (jV (Fs k) aF n).2):=EH h.pq h.fl k aF n
def VN (w:acL)(l:List Nat)(er:Int)(en:Ending)(w':acL):Prop :=
 ∃(a:Option Addr) (c:Nat),en=ab4 (adg #[aco a l.length c,vi er])/\bE w' a l/\acN w.heap.size w w'
def Qy {KK:Nat->Prop}{F:DF}{R:RF}(h:jo w KK F R)(aF n:Int)(ho:I64 aF):ac4 prog 43 #[R.v,vi aF,vi n] w (VN w (jV F aF n).1 (jV F aF n).2):=by
 have hsm:=CB h.1.ok aF n;by_cases hb:aF<0\/n<0\/1024<n;have:jV F aF n=([],1):=by unfold jV;rw[if_pos hb]
 rw[this];refine(Qs h aF n ho hb).mono ?_;rintro e' w' ⟨rfl,hb⟩;exact⟨none,0,rfl,bE.nil _ _,hb⟩;have ho':jV F aF n=(rd F aF.toNat (cnt F aF.toNat n.toNat),0):=by unfold jV;rw[if_neg hb]
 rw[ho']at hsm ⊢;refine(Qt h aF n ho.2 aa aa aa).mono ?_;rintro e' w' ⟨v,rfl,hv,hb⟩;obtain⟨a',c',rfl,_,_⟩:=aR.Le hv;have h1:=aR.zu hv hsm;refine⟨a',c',?_,h1.1,hb⟩;rw[List.length_map]
def CE {W wc:acL}{r:Nat}{cs:Array acK}(h:dL aA w q K p is Fs D t a e Z)(hB:acN w.heap.size w W)(g:gF W q K wc K'){a' e':Nat}(hq:PQ aA wc q K' p')(hfl:Fl p' 3 is Fs)(hgg:p'.G=FP.GG t a' e')(hd:p'.T=p.T/\p'.P=p.P)(hae:a'<=a+9000/\e'<=e+1)
  (hbx:acN wc.heap.size wc w') (hr:w.heap.size<=r) (hrn:¬KQ K' q r) (hrb:aD w' r 37 cs) (hcs:cs.size=46) (k:Nat) :
  aD (cZ w' r (aO q is D)) r 37 (aI (aO q is D))/\rZ aA w q K p is Fs D t a e Z k (ab4 (adg #[adA (aI (aO q is D)),acg true])) (cZ w' r (aO q is D)):=by
 refine⟨gy hrb hcs _,?_⟩;have hst:=dh w' r (aO q is D);have hlow:=h.pq.low;have hgo:gF w q K (cZ w' r (aO q is D)) K':=by
  have h1:=((gF.aX (q:=q) (K:=K) hB).trans g).old hbx;refine⟨h1.aJ.trans hst (λn hn e=>?_),h1.foot⟩;omega
 have hpq:PQ aA (cZ w' r (aO q is D)) q K' p':=by
  have h1:=hq.old hbx;exact h1.aJ hst (λn e=>by rw[e];exact Loose.blk (abX hlow hr) hrb) (λn hk e=>hrn (ack (by rw[<-e];exact hk))) (λe=>hrn (acm e.symm))
 have hold:∀j,j<3->jo (cZ w' r (aO q is D)) (KZ K' q Z) (Fs j) (D j):=λj hj=>by
  have h1:=h.dfr hB g hr j hj;exact⟨((h1.1.old hbx).jg (acm rfl) hst).sub (λn e=>ack e),h1.2⟩
 exact⟨K',p',is,Fs,D,a',e',rfl,⟨hpq,hfl,⟨hgg,by rw[hd.1,hd.2];exact h.gg.2⟩,hold,h.ino,h.zgo hgo.aJ.size⟩,hgo,hae,λj _=>⟨rfl,rfl⟩,hd.2⟩
def Z5 (aA:Nat)(W:acL)(q:Nat)(K:Nat->Prop)(p:Po)(L:List Nat)(er:Int)(x y r:Nat)(C:Nat->acK)(O:Array acK)(v15 v16:acK)(wx:acL):Prop :=
 ∃a1 c1 K',v15=aco a1 L.length c1/\v16=vi er/\bE wx a1 L/\bM aA W q K wx K' p/\Bx x y r C O wx/\¬KQ K' q r
def Z6 (W:acL)(L:List Nat)(er:Int)(v17 v18:acK)(wx:acL):Prop:=∃a2 c2,v17=aco a2 L.length c2/\v18=vi er/\bE wx a2 L/\acN W.heap.size W wx
def Qz (h:dL aA w q K p is Fs D t a e Z)(o:eQ)(ho:o.ok aA w)(hk:o.aL=3):ac4 prog 17 #[adA (aI (aO q is D)),adA o.cs.toArray] w (rZ aA w q K p is Fs D t a e Z (file3 o.file)):=by
 obtain⟨aL,file,aF,n,ba,l,bc⟩:=o;dsimp only at hk;subst hk;have H:=az h;have HO:=az ho;have h1C:=az (fu q is D);obtain⟨hk3,C9⟩:=file3_lt file;obtain⟨k,hkk⟩:∃k,k=file3 file:=⟨_,rfl⟩;show ac4 _ _ #[_,adA #[vi 3,vi file,vi aF,vi n,aco ba l.length bc]] _ (rZ aA w q K p is Fs D t a e Z (file3 file));rw[<-hkk]at hk3 C9 ⊢;have uE:=az hk3;clear h ho hkk;go_in;go_upto_region 1 with fail;obtain⟨x,hx⟩:∃x,x=w.heap.size:=⟨_,rfl⟩;refine zY H.o hx λW y r hy hr HB HR1 nk wW HRL YG=>?_
 rw[<-hx,<-hr,<-hy];clear hx hy hr;have y1:W.cell? ⟨y,1,none⟩=some (vi file):=nk.o.y.cell 1;have y0:W.cell? ⟨y,0,none⟩=some (vi 3):=nk.o.y.cell 0;go_wp2_with fail;refine(mf file 3 W aa aa).mono ?_;rintro e1 W1 ⟨rfl,rfl⟩;rw[C9];clear C9;go_upto_region 12 with fail;obtain⟨kd,ln,sz,d0,d1,d2,d3,d4,d5,sg,db,hik⟩:=oW is k (H.o.fl.fam.six k);have hi:=wP (q:=q) (D:=D) (x:=x) uE.o hik;have hy:∀W',aD W' y 48 #[vi 3,vi file,vi aF,vi n,aco ba l.length bc]->W'.cell? ⟨y,2,none⟩=some (vi aF)/\W'.cell? ⟨y,3,none⟩=some (vi n):=λW' hb=>⟨hb.cell 2,hb.cell 3⟩;have Sa:Hid (ac4 prog 13 #[ptr q,adA #[vi kd,vi ln,vi sz,vi d0,vi d1,vi d2,vi d3,vi d4,vi d5,vi sg,vi db],vi aF,vi n] W1.drew (qc aA W1.drew q K p (jV (Fs k) aF n).1 (jV (Fs k) aF n).2)):=az (by
  have h:=EI (HR1.o.old (ac3 _ W1).drew) k aF n
  rw[hik]at h
  exact h)
 obtain⟨L,hL⟩:∃L,L=(jV (Fs k) aF n).1:=⟨_,rfl⟩;obtain⟨er,her⟩:∃er,er=(jV (Fs k) aF n).2:=⟨_,rfl⟩;rw[<-hL,<-her]at Sa;have bK:Hid (∀V K',bM aA W1.drew q K V K' p->ac4 prog 43 #[(D k).v,vi aF,vi n] V.drew (VN V.drew L er)):=az (λV K' hV=>by
  have h:=HR1.o.dfs ((gF.aX (ac3 _ W1).drew).trans (gF.fA hV.go)) k uE.o
  have h2:jo V.drew (KZ K' q Z) (Fs k) (D k):=⟨h.1.old (ac3 _ V).drew,h.2⟩
  have h3:=Qy h2 aF n HO.o.nums.2.2.1
  rw[<-hL,<-her]at h3
  exact h3)
 clear hL her hik y0 y1;have n1:(k:Int)<3:=by have:=uE.o;omega
 have uG:Hid (aD W1.drew x 37 (aI (aO q is D))/\aD W1.drew y 48 #[vi 3,vi file,vi aF,vi n,aco ba l.length bc]):=az ⟨nk.o.x,nk.o.y⟩;go_cut [15,16] from 99 to 145 (λv15 v16 wx=>Hid (Z5 aA W1.drew q K p L er x y r (aO q is D) #[vi 3,vi file,vi aF,vi n,aco ba l.length bc] v15 v16 wx))
 case first =>
  go_region_held3 (λW'=>aD W' x 37 (aI (aO q is D))/\aD W' y 48 #[vi 3,vi file,vi aF,vi n,aco ba l.length bc])
   (with_reducible (first|exact uG.o|exact mY.o|fail))
   ((go_at_call 13;refine Sa.o.mono ?_;rintro e5 w5 ⟨a1,c1,K',rfl,hrow,hrd⟩;obtain⟨hb5,GV⟩:=nk.o.drew.go (gF.fA hrd.go) wW.o.1;have mY:=az (show aD w5 x 37 (aI (aO q is D))/\aD w5 y 48 #[vi 3,vi file,vi aF,vi n,aco ba l.length bc] from ⟨hb5.x,hb5.y⟩);have HM:Hid (Z5 aA W1.drew q K p L er x y r (aO q is D) #[vi 3,vi file,vi aF,vi n,aco ba l.length bc] (aco a1 L.length c1) (vi er) w5):=az ⟨a1,c1,K',rfl,rfl,hrow,hrd,hb5,GV.2.2⟩;clear hrow hrd hb5 GV))
  go_wp2;go_meet;exact HM
 case rest =>
 obtain⟨a1,c1,K',rfl,rfl,hrow,hrd,hbx,hrn⟩:=hcut.o;have Dw:=az hrow;have GY:=az hrd;have mX:=az hbx;have Da:=az hrn;have HRR:=az (bK.o _ _ hrd);clear hcut hrow hrd hbx hrn nk uG Sa bK hi;obtain⟨wm,hwm⟩:∃wm,wm=wc:=⟨_,rfl⟩;subst hwm;obtain⟨s1,yX,N1,xY,zB,zC,NQ⟩:∃s1 yX N1 xY zB zC,D k=⟨s1,yX,N1,xY,zB,zC⟩:=⟨_,_,_,_,_,_,rfl⟩;have HDK:=az NQ;have hf:=wQ (q:=q) (is:=is) (x:=x) uE.o HDK.o;rw[NQ]at HRR;clear NQ;have uG:Hid (aD wm.drew x 37 (aI (aO q is D))/\aD wm.drew y 48 #[vi 3,vi file,vi aF,vi n,aco ba l.length bc]):=az ⟨mX.o.x,mX.o.y⟩
 go_upto_region 13 with fail;go_cut [17,18] from 113 to 145 (λv17 v18 wx=>Hid (Z6 wm L er v17 v18 wx))
 case first =>
  go_region_held3 (λW'=>aD W' x 37 (aI (aO q is D))/\aD W' y 48 #[vi 3,vi file,vi aF,vi n,aco ba l.length bc])
   (with_reducible (first|exact uG.o|exact mY.o|fail))
   ((go_at_call 43;refine HRR.o.mono ?_;rintro e5 w5 ⟨a2,c2,rfl,hrow,hb5⟩;have hb6:acN wm.heap.size wm w5:=(ac3 _ wm).drew.trans hb5;have tZ:=mX.o.old hb6;have mY:=az (show aD w5 x 37 (aI (aO q is D))/\aD w5 y 48 #[vi 3,vi file,vi aF,vi n,aco ba l.length bc] from ⟨tZ.x,tZ.y⟩);have HM:Hid (Z6 wm L er (aco a2 L.length c2) (vi er) w5):=az ⟨a2,c2,rfl,rfl,hrow,hb6⟩;clear hrow hb5 hb6 tZ))
  go_wp2;go_meet;exact HM
 case rest =>
 obtain⟨a2,c2,rfl,rfl,hrow2,hb2⟩:=hcut.o;have DR:=az (mX.o.old hb2);have lX:Hid (ac4 prog 14 #[aco a1 L.length c1,aco a2 L.length c2] wc.drew λe w'=>e=ab4 (acg true)/\w'=wc.drew):=az (pl.nX a1 a2 L c1 c2 _ (Dw.o.below (hb2.drew)) (hrow2.below (ac3 _ wc).drew));have HB2:=az hb2;clear hcut hrow2 hb2 hf HRR uG hy n1;have e1:(er==er)=true:=ai;have qF:Hid (aD wc.drew x 37 (aI (aO q is D))):=az DR.o.x;have nJ:Hid (aD (cZ wc.drew r (aO q is D)) x 37 (aI (aO q is D))):=az (DR.o.x.drew.aJ (dh _ _ _) (λe=>wW.o.2.1 e.symm))
 obtain⟨hrb,hst⟩:=CE (p':=p) H.o HB.o ((gF.aX (ac3 _ W1).drew).trans (gF.fA GY.o.go)) GY.o.go.at_ H.o.fl H.o.gg.1 ⟨rfl,rfl⟩ ⟨aa,aa⟩ (HB2.o.drew) YG.o Da.o DR.o.r.drew rfl k;have vN:=az hrb;have HST:=az hst;clear hrb hst;go_upto_region 14 with fail;refine agr (S:=λW'=>aD W' x 37 (aI (aO q is D))) ah (qF.o) (λhHeld=>?_);change wpAnyH _ _ _ _ _ 11 #[false,false,false,false,false,false,false,false,false,false,false] _ wc.drew;refine tkr 0 (agq 2) (λ_ h=>h) ?_;simp only[ay,afD]
 refine tk 1 ?_;simp only[ay,afD];refine tk 2 ?_;simp only[ay,afD];refine rW 3 λK hK=>?_
 go_simp;go_at_call 14;refine lX.o.mono ?_;rintro e2 w2 ⟨rfl,rfl⟩;go_wp2_with fail;refine hK.out _ _ (qF.o) (λ_=>?_);clear hK K;simp only[ay,afD];refine tk 4 ?_;simp only[ay,afD];refine tk 5 ?_;simp only[ay,afD];refine tk 6 ?_;simp only[ay,afD];refine tk 7 ?_;simp only[ay,afD]
 refine tk 8 ?_;simp only[ay,afD];refine rW 9 λK hK=>?_
 refine kr rfl (agq 4) (agq 125) rfl rfl rfl DR.o.r.drew rfl h1C.o ?_;refine hK.out _ _ (nJ.o) (λ_=>?_);clear hK K;simp only[ay,afD];refine rW 10 λK hK=>?_
 go_simp;refine hK.out _ _ (nJ.o) (λ_=>?_);clear hK K;simp only[ay,afD];refine ags ah ?_ _;clear hHeld;generalize cZ wc.drew r (aO q is D)=we at*;go_wp2;exact ac5 (kX vN.o _ rfl rfl) rfl HST.o
def CoQ (aA:Nat)(W:acL)(q:Nat)(K:Nat->Prop)(p:Po)(is:Nat->PI.bF)(Fs:Nat->DF)(t a e:Nat)(en:Ending)(w':acL):Prop :=
 ∃(er:Int) (K':Nat->Prop) (p':Po),en=ab4 (vi er)/\(er=0\/er=40)/\PQ aA w' q K' p'/\Fl p' 3 is Fs/\p'.G=FP.GG t (a+9000) (e+1)/\(p'.T=p.T/\p'.P=p.P)/\gF W q K w' K'
def Mi (h:dL aA w q K p is Fs D t a e Z)(ha:a<1000000000000/\e<1000000000000){at0:Option Addr}(hr:dx aA w at0 (aaA 56 0)):ac4 prog 44 #[ptr q,aco at0 56 56] w (CoQ aA w q K p is Fs t a e):=by
 refine(po.LX h.pq h.gg.1 h.gg.2 ha.1 ha.2 at0 (aaA 56 0) 56 hr ai).mono ?_;rintro en w' ⟨er,K',rfl,hc⟩;rcases hc with⟨rfl,hc⟩|⟨rfl,hc⟩;exact⟨_,K',_,rfl,ack rfl,hc.at_,h.fl.abu hc.at_.ok,rfl,⟨rfl,rfl⟩,gF.ZX hc⟩;exact⟨_,K',_,rfl,acm rfl,hc.at_,h.fl.other hc.at_.ok,rfl,⟨rfl,rfl⟩,gF.ZX hc⟩
def JH (h:dL aA w q K p is Fs D t a e Z)(o:eQ)(ho:o.ok aA w)(ha:a<1000000000000/\e<1000000000000)(hk:o.aL≠1/\o.aL≠2/\o.aL≠3):ac4 prog 17 #[adA (aI (aO q is D)),adA o.cs.toArray] w (rZ aA w q K p is Fs D t a e Z (file3 o.file)):=by
 obtain⟨aL,file,aF,n,ba,l,bc⟩:=o;dsimp only at hk ha;have H:=az h;have h1C:=az (fu q is D);obtain⟨hk3,C9⟩:=file3_lt file;obtain⟨k,hkk⟩:∃k,k=file3 file:=⟨_,rfl⟩;show ac4 _ _ #[_,adA #[vi aL,vi file,vi aF,vi n,aco ba l.length bc]] _ (rZ aA w q K p is Fs D t a e Z (file3 file));rw[<-hkk]at hk3 C9 ⊢;clear h ho hkk;go_in;go_upto_region 1 with fail;obtain⟨x,hx⟩:∃x,x=w.heap.size:=⟨_,rfl⟩;refine zY H.o hx λW y r hy hr HB HR1 nk wW HRL YG=>?_
 rw[<-hx,<-hr,<-hy];clear hx hy hr;have k1:(aL==1)=false:=by simpa using hk.1
 have k2:(aL==2)=false:=by simpa using hk.2.1
 have k3:(aL==3)=false:=by simpa using hk.2.2
 have k1':¬aL=1:=hk.1;have k2':¬aL=2:=hk.2.1;have k3':¬aL=3:=hk.2.2;have y1:W.cell? ⟨y,1,none⟩=some (vi file):=nk.o.y.cell 1;have y0:W.cell? ⟨y,0,none⟩=some (vi aL):=nk.o.y.cell 0;go_wp2_with fail;refine(mf file 3 W aa aa).mono ?_;rintro e1 W1 ⟨rfl,rfl⟩;rw[C9];clear C9;go_upto_region 15 with fail;have acn:∀w:acL,(Instr.makeSlice 23 (.int .i64 56) (.int .i64 56)).run prog w=.ok (aco (some ⟨w.heap.size,0,none⟩) 56 56) (w.alloc (ach (madeCells #[vb 0] 56) 5)):=λw=>gp 56 aa w;have hi:∀W',aD W' x 37 (aI (aO q is D))->W'.cell? ⟨x,0,none⟩=some (ptr q):=λW' h=>(gu h).1 0 aa
 have qF:Hid (aD W1.drew x 37 (aI (aO q is D))):=az nk.o.x;have nJ:Hid (aD (W1.drew.alloc (ach (madeCells #[vb 0] 56) 5)) x 37 (aI (aO q is D))):=az (nk.o.x.drew.alloc _);have GN:Hid (acN W1.heap.size W1 (W1.drew.alloc (ach (madeCells #[vb 0] 56) 5))):=az ((ac3 _ W1).drew.alloc aj _);have HCM:Hid (ac4 prog 44 #[ptr q,aco (some ⟨W1.heap.size,0,none⟩) 56 56] (W1.drew.alloc (ach (madeCells #[vb 0] 56) 5)) (CoQ aA (W1.drew.alloc (ach (madeCells #[vb 0] 56) 5)) q K p is Fs t a e)):=az (Mi (HR1.o.old GN.o) ha (mK W1.drew 56))
 have h1k:=h1C;refine agr (S:=λW'=>aD W' x 37 (aI (aO q is D))) ah (qF.o) (λhHeld=>?_);change wpAnyH _ _ _ _ _ 5 #[false,false,false,false,false] _ W1.drew;refine tk 0 ?_;simp only[ay,afD];refine tk 1 ?_;simp only[ay,afD];refine rW 2 λK hK=>?_
 go_simp;refine hK.out _ _ (nJ.o) (λ_=>?_);clear hK K;simp only[ay,afD];refine rW 3 λK hK=>?_
 go_simp;go_at_call 44;refine HCM.o.mono ?_;rintro e5 w5 ⟨er,K',p',rfl,her,hq,hfl,hgg,hd,hg⟩;obtain⟨hb5,GV⟩:=(nk.o.drew.alloc (ach (madeCells #[vb 0] 56) 5)).go hg wW.o.1;have xR:=az hb5.x;go_wp2_with fail;refine hK.out _ _ (xR.o) (λ_=>?_);clear hK K;simp only[ay,afD];refine rW 4 λK hK=>?_
 go_simp;refine hK.out _ _ (xR.o) (λ_=>?_);clear hK K;simp only[ay,afD];refine ags ah ?_ _;clear hHeld;have qG:=az hb5;have HRG:Hid (gF W1 q K w5 K'):=az ((gF.aX GN.o).trans hg);obtain⟨hrb,hst⟩:=CE H.o HB.o HRG.o hq hfl hgg hd ⟨aj,aj⟩ (ac3 _ w5) YG.o GV.2.2 hb5.r rfl k;have vN:=az hrb;have HST:=az hst;clear hrb hst hq hfl hgg hd hg hb5 GV qF nJ hi acn;rcases her with rfl|rfl
 ·go_wp2_with (first|(refine mq rfl (agq 2) rfl rfl xR.o ?_)|(refine ko rfl (agq 4) (agq 138) rfl rfl rfl qG.o.r rfl h1k.o ?_));exact ac5 (kX vN.o _ rfl rfl) rfl HST.o
 go_wp2_with (first|(refine mq rfl (agq 2) rfl rfl xR.o ?_)|(refine ko rfl (agq 4) (agq 138) rfl rfl rfl qG.o.r rfl h1k.o ?_));exact ac5 (kX vN.o _ rfl rfl) rfl HST.o
def VO (h:dL aA w q K p is Fs D t a e Z)(o:eQ)(ho:o.ok aA w)(ha:a<1000000000000/\e<1000000000000):ac4 prog 17 #[adA (aI (aO q is D)),adA o.cs.toArray] w (rZ aA w q K p is Fs D t a e Z (file3 o.file)):=by
 by_cases h1:o.aL=1;exact Ma h o ho h1;by_cases h2:o.aL=2;exact Mh h o ho h2;by_cases h3:o.aL=3;exact Qz h o ho h3;exact JH h o ho ha ⟨h1,h2,h3⟩
end
variable{w:acL}
abbrev pgI (F:DF):List Int:=(pg F.z).map λ(n:Nat)=>(n:Int)
def jo.aft {K2:Nat->Prop}{F:DF}{R:RF}(h:jo w K2 F R):R.N=(pgI F).length/\jC w R.ap (pgI F):=⟨by rw[List.length_map];exact h.1.len.symm,h.1.zy⟩
end lw
namespace FP
open mgr
def gK (c:NP.bX):Nat->NP.bX
 |0=>c
 |k+1=>(NP.erase (gK c k) k).2
def acr (c:NP.bX):Bool:=(List.range c.B).all λk=> !NP.qO (gK c k) k&&(NP.erase (gK c k) k).1==0
def bV (c:NP.bX):NP.bX:=gK c c.B
def begun (c:NP.bX)(g:Mg)(aC:Int):Ft:=⟨bV c,g,aC,gX (bV c),[],[],[],[],1,1,aaA c.B false,false⟩
def formatN (c:NP.bX)(aC:Int)(text:List Nat):Option Ft :=
 if c.down=false/\(1<=aC/\aC<=32768)/\(text.length:Int)=c.S-8/\2<=Il c.B aC (gX c)/\acr c=true/\2<=Il c.B aC (gX (bV c)) then
  match jX (bV c) (aaA c.B true) (aaA c.B 0) aC (gX (bV c)) with
  |(_,none)=>none
  |(_,some g)=>match Ft.agt (begun c g aC) text with
   |some (e,f)=>if e=0 then some f else none
   |none=>none
 else none
def formatN_some {c:NP.bX}{aC:Int}{text:List Nat}{F:Ft}(h:formatN c aC text=some F) :
  c.down=false/\(1<=aC/\aC<=32768)/\(text.length:Int)=c.S-8/\2<=Il c.B aC (gX c)/\acr c=true/\2<=Il c.B aC (gX (bV c)) /\
   ∃g,jX (bV c) (aaA c.B true) (aaA c.B 0) aC (gX (bV c))=(0,some g)/\Ft.agt (begun c g aC) text=some (0,F):=by
 unfold formatN at h;split at h;rename_i h0;obtain⟨h1,h2,h3,h4,h5,h6⟩:=h0;refine⟨h1,h2,h3,h4,h5,h6,?_⟩;split at h;cases h;rename_i e g hg;have:=(Ih hg).2.1;subst this;split at h;rename_i e f hs;split at h;rename_i he;subst he;cases h;exact⟨g,hg,hs⟩;cases h;cases h;cases h
end FP
namespace ft
open RowKit mgr
def qd {c:NP.bX}(h:gW c):∀n,gW (FP.gK c n)
 |0=>h
 |n+1=>(qd h n).act (.erase n) trivial
def vg (c:NP.bX):∀n,(FP.gK c n).B=c.B/\(FP.gK c n).P=c.P/\(FP.gK c n).S=c.S
 |0=>⟨rfl,rfl,rfl⟩
 |n+1=>by
  have h1:=sK (FP.gK c n) (.erase n)
  have h2:=vg c n
  exact⟨h1.1.trans h2.1,h1.2.1.trans h2.2.1,h1.2.2.trans h2.2.2⟩
def YL {c:NP.bX}(h:FP.acr c=true){k:Nat}(hk:k<c.B):NP.qO (FP.gK c k) k=false/\NP.erase (FP.gK c k) k=(0,FP.gK c (k+1)):=by
 have:=List.all_eq_true.1 h k (List.mem_range.2 hk);simp only[ac8,Bool.not_eq_true',beq_iff_eq]at this;exact⟨this.1,by rw[<-this.2];rfl⟩
def QA:(prog.info? 4).map (λi=>(i.zero,i.size,i.bytes))=some (some (acg false),1,1):=ah
def CJ (n:Nat)(hn:n<=1000000)(w:acL):(Instr.makeSlice 148 (.int .i64 (n:Int)) (.int .i64 (n:Int))).run prog w=.ok (.slice (some ⟨w.heap.size,0,none⟩) n n) (w.alloc (.cells (madeCells #[.bool false] n) 4)) :=
 run_make_row' 148 4 (.bool false) 1 underlying148 QA rfl .i64 .i64 n aa aa w
def EJ (w:acL)(n:Nat)(hn:n<=1000000):kY (w.alloc (ach (madeCells #[acg false] n) 4)) 4 1 w.heap.size n n ((aaA n false).map acg):=by
 have:=kY.lit w 4 1 n (madeCells #[acg false] n) (by unfold maxLen;omega) (by simp[madeCells]);rw[toList_madeCells_one]at this;rw[List.map_replicate];exact this
def QB (w:acL)(n:Nat):jC (w.alloc (ach (madeCells #[vi 0] n) 3)) (some ⟨w.heap.size,0,none⟩) (aaA n 0):=by
 refine acm ⟨w.heap.size,0,rfl,λi hi=>?_⟩;rw[abP]at hi;rw[(aD.new w _ _).cell,Nat.zero_add,<-Array.getElem?_toList,toList_madeCells_one,afk,if_pos hi,List.getD_eq_getElem?_getD,afk,if_pos hi];rfl
variable{n:Nat}
def acs {w:acL}{g c:Nat}{l:List Bool}(h:kY w 4 1 g n c (l.map acg))(hl:l.length=n):AJ w (some ⟨g,0,none⟩) l:=by
 refine acm ⟨g,0,rfl,λi hi=>?_⟩;rw[Nat.zero_add,h.cell aa,List.getElem?_map,List.getElem?_eq_getElem hi,List.getD_eq_getElem?_getD,List.getElem?_eq_getElem hi];rfl
structure VQ (aA:Nat)(w:acL)(k:Nat)(M:dA)(w':acL)(f:Nat)(X:dm):Prop where
 at_:bP aA w' f X
 key:X.G.k=k
 aJ:aP (M.foot k) w w'
 foot:∀n,X.foot f n->M.foot k n\/w.heap.size<=n
def acu (aA:Nat)(w:acL)(k:Nat)(M:dA)(F:FP.Ft)(e:Ending)(w':acL):Prop:=∃f X,e=ab4 (adg #[ptr f,vi 0])/\VQ aA w k M w' f X/\X.view=F
section
variable{aA:Nat}{w w' wr:acL}{k fb gb j n:Nat}{M Mj:dA}
def JJ (h:aT aA w k M)(hn:M.foot k n):∃t cs,aD w n t cs/\(t=144\/t=140\/t=23):=by
 rcases hn with rfl|rfl|hn;exact⟨_,_,h.aW,ack rfl⟩;obtain⟨cur,hb,_⟩:=h.blocks.blk;exact⟨_,_,hb,acm (ack rfl)⟩;obtain⟨x,hx,rfl⟩:=List.mem_map.1 hn;obtain⟨cur,hb,_⟩:=(h.pages x hx).blk;exact⟨_,_,hb,acm (acm rfl)⟩
def vk (h:aT aA w k M){t:TypeId}{cs:Array acK}(hb:aD w n t cs)(ht:t≠144/\t≠140/\t≠23):¬M.foot k n:=by
 intro e;obtain⟨t',cs',hb',h'⟩:=JJ h e;rw[bY hb hb']at h';rcases h' with h'|h'|h';exact ht.1 h';exact ht.2.1 h';exact ht.2.2 h'
def QC {M':dA}(h:Goes aA w k M wr M'){t:TypeId}{cs:Array acK}(hb:aD wr n t cs)(hn:w.heap.size<=n)(hbase:aA<=n)(ht:t≠144/\t≠140/\t≠23)(hd:qQ t=false)(i:Nat)(u:acK) :
  Goes aA w k M (wr.setCell ⟨n,i,none⟩ u) M' :=
 ⟨h.at_.fD (aP.set (F:=λm=>m=n) wr (p:=⟨n,i,none⟩) rfl u) (λm e=>by subst e;exact Loose.blk hbase hb hd) (λm e e2=>vk h.at_ hb ht (e2▸e)),h.aJ.setCell (p:=⟨n,i,none⟩) (acm hn) u,h.foot⟩
variable{aC bad:Int}
def bP.made {m:Nat}{G:iL}{f bs bn bg lg B:Nat}(hh:Held aA w m G M)
  (hf:aD w f 153 #[ptr G.k,(adj none:acK),vi aC,vi bad,aco none 0 0,.map (some bs),.map (some bn),.map (some bg),vq 1,vq 1,aco (some ⟨lg,0,none⟩) B B,acg false])
  (h1:bz w bs .u32 dz []) (h2:bz w bn .u32 dz []) (h3:bz w bg .u32 dz []) (hl:kY w 4 1 lg B B ((aaA B false).map acg))
  (low:aA<=f/\aA<=bs/\aA<=bn/\aA<=bg/\aA<=lg) (ne:bs≠bn/\bs≠bg/\bn≠bg) :
  bP aA (w.setCell ⟨f,1,none⟩ (ptr m)) f ⟨m,G,M,aC,bad,none,[],0,bs,bn,bg,[],[],[],1,1,lg,B,aaA B false,false⟩:=by
 have q:aP (λn=>n=f) w (w.setCell ⟨f,1,none⟩ (ptr m)):=aP.set (F:=λn=>n=f) w (p:=⟨f,1,none⟩) rfl _;have hn:¬foot1 m G M f:=by
  intro e;obtain⟨t,cs,hb,ht⟩:=hh.type e;have:=bY hb hf;rcases ht with ht|ht|ht|ht|ht<;>rw[ht]at this<;>exact absurd this ag
 refine⟨?_,hh.fD q (λn e=>by subst e;exact Loose.blk low.1 hf) (λn e e2=>hn (e2▸e)),dx.nil _ _ _,⟨aj,Nat.zero_le _⟩,h1.aJ q (h1.dM hf),h2.aJ q (h2.dM hf),h3.aJ q (h3.dM hf),?_,low,ne⟩;show aD _ f 153 #[ptr G.k,ptr m,vi aC,vi bad,aco none 0 0,.map (some bs),.map (some bn),.map (some bg),vq 1,vq 1,aco (some ⟨lg,0,none⟩) (aaA B false).length B,acg false];rw[abP];exact hf.bB 1 (ptr m);have:=hl.aJ q (hl.dM hf ag);simpa using this
def GH (w:acL)(B:Nat)(cs:Array acK):acL:=((((w.alloc (.map #[] 0)).alloc (.map #[] 0)).alloc (.map #[] 0)).alloc (ach (madeCells #[acg false] B) 4)).alloc (ach cs 153)
def YM (w:acL)(B:Nat)(hB:B<=1000)(cs:Array acK):acN w.heap.size w (GH w B cs)/\bz (GH w B cs) w.heap.size .u32 dz []/\bz (GH w B cs) (w.heap.size+1) .u32 dz []/\bz (GH w B cs) (w.heap.size+1+1) .u32 dz [] /\
  kY (GH w B cs) 4 1 (w.heap.size+1+1+1) B B ((aaA B false).map acg)/\aD (GH w B cs) (w.heap.size+1+1+1+1) 153 cs:=by
 unfold GH;refine⟨((((ax.alloc ai _).alloc (by simp;omega) _).alloc (by simp;omega) _).alloc (by simp;omega) _),((((bz.made w .u32 dz).alloc _).alloc _).alloc _).alloc _,?_,?_,?_,?_⟩;have:=(((bz.made (w.alloc (.map #[] 0)) .u32 dz).alloc (.map #[] 0)).alloc (ach (madeCells #[acg false] B) 4)).alloc (ach cs 153);have e:(w.alloc (.map #[] 0)).heap.size=w.heap.size+1:=ai;rw[e]at this;exact this;have:=((bz.made ((w.alloc (.map #[] 0)).alloc (.map #[] 0)) .u32 dz).alloc (ach (madeCells #[acg false] B) 4)).alloc (ach cs 153)
 have e:((w.alloc (.map #[] 0)).alloc (.map #[] 0)).heap.size=w.heap.size+1+1:=ai;rw[e]at this;exact this;have:=(EJ (((w.alloc (.map #[] 0)).alloc (.map #[] 0)).alloc (.map #[] 0)) B aa).old (D7 _ cs 153);have e:(((w.alloc (.map #[] 0)).alloc (.map #[] 0)).alloc (.map #[] 0)).heap.size=w.heap.size+1+1+1:=ai;rw[e]at this;exact this;have:=aD.new ((((w.alloc (.map #[] 0)).alloc (.map #[] 0)).alloc (.map #[] 0)).alloc (ach (madeCells #[acg false] B) 4)) 153 cs;have e:((((w.alloc (.map #[] 0)).alloc (.map #[] 0)).alloc (.map #[] 0)).alloc (ach (madeCells #[acg false] B) 4)).heap.size=w.heap.size+1+1+1+1:=ai
 rw[e]at this;exact this
def QD {c:NP.bX}{fresh:List Bool}{live:List Int}{e:Int}{g:Mg}(h:jX c fresh live aC bad=(e,some g)):g.aC=aC/\g.bad=bad:=by
 unfold jX at h;split at h;simp at h;split at h;simp at h;split at h;simp only[Prod.mk.injEq,Option.some.injEq]at h;rw[<-h.2];exact⟨rfl,rfl⟩;simp at h
def QE {c:NP.bX}{g:Mg}(hg:gW (FP.bV c))(ho:jX (FP.bV c) (aaA c.B true) (aaA c.B 0) aC (FP.gX (FP.bV c))=(0,some g))(hr:1<=aC/\aC<=32768)(hb:0<=FP.gX (FP.bV c)/\FP.gX (FP.bV c)<=65535):Fit (FP.begun c g aC):=by
 have h1:=QD ho;refine⟨hg,(Ih ho).1,⟨?_,?_,hb.1,hb.2⟩,?_,Low.nil,Low.nil,Low.nil,?_,?_⟩;show 0<=aC;omega;show aC<=65535;omega;show 0<=g.aC/\g.aC<=65535/\0<=g.bad/\g.bad<=65535;rw[h1.1,h1.2];omega;show (aaA c.B false).length=(FP.bV c).B;rw[abP];exact(vg c c.B).1.symm;exact Nat.zero_le _
structure CK (aA:Nat)(w:acL)(k:Nat)(M:dA)(fb gb j:Nat)(wr:acL)(Mj:dA):Prop where
 goes:Goes aA w k M wr Mj
 view:Mj.view=FP.gK M.view j
 arr:kY wr 4 1 fb M.B M.B ((aaA j true++aaA (M.B-j) false).map acg)
 WE:aD wr gb 103 #[vi M.B,vi M.P,vi M.S]
 iT:w.heap.size<=fb/\aA<=fb/\fb≠gb
def CK.erase (h:CK aA w k M fb gb j wr Mj){M':dA}(q:Goes aA wr k Mj w' M')(hv:M'.view=FP.gK M.view (j+1))(hj:j<M.B) :
  CK aA w k M fb gb (j+1) (w'.setCell ⟨fb,j,none⟩ (acg true)) M'/\w'.cell? ⟨fb,j,none⟩=some (acg false)/\w'.frozen? ⟨fb,j,none⟩=false:=by
 obtain⟨cur,hb,_⟩:=h.arr.blk;have hn:=vk h.goes.at_ hb ag;have ha:=h.arr.aJ q.aJ hn;obtain⟨cur',hb',_⟩:=ha.blk;have hg:=h.WE.aJ q.aJ (vk h.goes.at_ h.WE ag);refine⟨⟨QC (h.goes.trans q) hb' h.iT.1 h.iT.2.1 ag ag j _,hv,?_,hg.far (λe=>h.iT.2.2 e.symm) _,h.iT⟩,?_,ha.frozen j⟩;have:=ha.set j (acg true);have e:((aaA j true++aaA (M.B-j) false).map acg).set j (acg true)=(aaA (j+1) true++aaA (M.B-(j+1)) false).map acg:=by
  rw[<-List.map_set,List.set_append_right _ _ ai,abP,Nat.sub_self,show M.B-j=(M.B-(j+1))+1 by omega,List.replicate_succ,List.set_cons_zero,List.replicate_succ',List.append_assoc];rfl
 rw[e]at this;exact this;rw[ha.cell aa,List.getElem?_map,List.getElem?_append_right ai,abP,Nat.sub_self,afk,if_pos aa];rfl
end
variable{aA:Nat}{w:acL}{k:Nat}{M:dA}
def agX (h:aT aA w k M)(hg:gW M.view)(hbase:aA<=w.heap.size)(aC:Int)(a:Option Addr)(text:List Nat)(c:Nat)(hr:dx aA w a text)(F:FP.Ft)(hq:FP.formatN M.view aC text=some F)
  (hsd:∀g,jX (FP.bV M.view) (aaA M.view.B true) (aaA M.view.B 0) aC (FP.gX (FP.bV M.view))=(0,some g)->FP.Sound (FP.begun M.view g aC)) :
  ac4 prog 50 #[ptr k,vi aC,aco a text.length c] w (acu aA w k M F):=by
 obtain⟨Z7,hres,hlen,hd1,Z8,hd2,g,hopen,NS⟩:=FP.formatN_some hq;have Xx:=az (hsd g hopen);clear hsd;have nR:Hid (0<=FP.gX M.view/\FP.gX M.view<=M.B):=az (vW M.view M.B);have V4:Hid (0<=FP.gX (FP.bV M.view)/\FP.gX (FP.bV M.view)<=M.B):=az (by
  have h1:=vW (FP.bV M.view) (FP.bV M.view).B
  have h2:(FP.bV M.view).B=M.B:=(vg M.view M.B).1
  rw[h2]at h1
  unfold FP.gX
  rw[h2]
  exact h1)
 have pQ:8<=M.B/\M.B<=128/\M.P<=32/\64<=M.S/\M.S<=512:=by
  have:NP.bH M.B M.P M.S=true:=hg.ok.right;unfold NP.bH at this;simp only[ac8,Bool.or_eq_true,beq_iff_eq,decide_eq_true_eq]at this;omega
 have QF:=az pQ;have H:=az h;have HG:=az hg;have HR:=az hr;have HN:=az Z8;have HO:=az hopen;have HS:=az NS;have HU:=az (ET h);have VR:M.down=false:=Z7;rw[VR]at HU;have r1:¬aC<1:=aa;have r2:¬32768<aC:=aa;have q8:IntKind.i64.wrap ((M.S:Int)-8)=(M.S:Int)-8:=IntWalk.i64_in _ aa;have r3:((text.length:Int) != (M.S:Int)-8)=false:=by
  have:(text.length:Int)=(M.S:Int)-8:=hlen;simp[this]
 have HLEN:=az hlen;have HD1:Hid (¬((M.B:Int)-FP.gX M.view-aC-1<2)):=az (by
  have:2<=(M.B:Int)-FP.gX M.view-aC-1:=hd1
  omega)
 have HD2:Hid (¬((M.B:Int)-FP.gX (FP.bV M.view)-aC-1<2)):=az (by
  have:2<=(M.B:Int)-FP.gX (FP.bV M.view)-aC-1:=hd2
  omega)
 have afv:=az hres;have hf2:=SK M.B M.P M.S;clear h hg hr Z8 hopen NS Z7 VR hlen hd1 hd2 hres pQ hq;go_in;go_wp2_with fail;refine HU.o.mono ?_;rintro e w' ⟨rfl,rfl⟩;go_wp2_with fail;refine(iZ H.o).mono ?_;rintro e w1 ⟨rfl,hb1⟩;have HB1:=az hb1;clear hb1;go_wp2_with fail;refine(iZ (H.o.old HB1.o)).mono ?_;rintro e w2 ⟨rfl,hb2⟩;have HB2:=az (HB1.o.trans (hb2.mono HB1.o.size));clear hb2;go_upto_region 8 with fail;have HB3:=az (HB2.o.alloc HB2.o.size (ach #[vi M.B,vi M.P,vi M.S] 103));have G3:=az (aD.new w2 103 #[vi M.B,vi M.P,vi M.S]);generalize w2.alloc (ach #[vi M.B,vi M.P,vi M.S] 103)=w3 at*
 generalize w2.heap.size=gb at*;have WT:Hid (∀n:Sub w3,ac4 prog 83 #[adA #[vi M.B,vi M.P,vi M.S],vi aC,vi (FP.gX M.view)] n.w λe w'=>e=ab4 (vi ((M.B:Int)-FP.gX M.view-aC-1))/\acN n.w.heap.size n.w w') :=
  az (λn=>jM _ _ _ _ _ n.w (by have h1:=nR.o;have h2:=QF.o;have h3:=afv.o;omega))
 have Ii:Hid (∀n:Sub w3,ac4 prog 84 #[ptr k] n.w λe w'=>e=ab4 (vi (FP.gX M.view))/\acN n.w.heap.size n.w w') :=
  az (λn=>uw ((H.o.old HB3.o).old n.below) HG.o.ok)
 generalize FP.gX M.view=bd at*;generalize (M.B:Int)-bd-aC-1=db at*;have lt2:=HD1.o;have g0:=G3.o.cell 0;have g1:=G3.o.cell 1;have g2:=G3.o.cell 2;simp only[List.getElem?_toArray,List.getElem?_cons_zero,List.getElem?_cons_succ]at g0 g1 g2;have g0:=Sub.cell g0;have g1:=Sub.cell g1;have g2:=Sub.cell g2;refine aZ ah ah ?_;repeat (go_big_quiet_step (first|exact fM (Ii.o _)|exact fM (WT.o _)))
 refine wpQuiet_nil ?_;rintro _ ⟨nq,rfl⟩;have pI:=az (HB3.o.trans (nq.below.mono HB3.o.size));have G4:=az (G3.o.old nq.below);clear g0 g1 g2 WT Ii G3 HB1 HB2 HU;generalize nq.w=w4 at*;have g0:w4.cell? ⟨gb,0,none⟩=some (vi M.B):=G4.o.cell 0;have hmk:=CJ M.B (by have:=QF.o;omega);go_upto_region 11 with fail;have zt:Hid (CK aA w' k M w4.heap.size gb 0 (w4.alloc (ach (madeCells #[acg false] M.B) 4)) M):=az (by
  have h1:=EJ w4 M.B (by have:=QF.o;omega)
  have h2:=pI.o.size
  have h3:=G4.o.lt
  exact⟨(Goes.aX H.o pI.o).old ax,rfl,by simpa using h1,G4.o.alloc _,h2,abX hbase h2,aa⟩)
 clear hmk g0 G4 pI HB3;generalize w4.alloc (ach (madeCells #[acg false] M.B) 4)=w5 at*;generalize w4.heap.size=fb at*;go_wp2_with fail;go_loopw [51] (λi wr=>∃(j:Nat) (Mj:dA),j<=M.B/\i=vi j/\Hid (CK aA w' k M fb gb j wr Mj)) (λi _=>M.B-(intOf i).toNat)
 case atStart=>exact⟨0,M,Nat.zero_le _,rfl,zt⟩
 case round =>
  clear zt;obtain⟨j,Mj,hj,rfl,hst⟩:=hrel;have hdm:=QF.o;by_cases hlt:j<M.B
  ·have HGJ:=az (qd HG.o j);have Q7:=az (YL HN.o (k:=j) hlt);have vM:Hid Mj.view.ok:=az (by rw[hst.o.view];exact HGJ.o.ok);have HBM:Hid (Kc Mj j=false):=az (by rw[AL Mj j (pE vM.o),hst.o.view];exact Q7.o.1);go_wp2_with fail;refine(EX hst.o.goes.at_ j).mono ?_;rw[HBM.o];rintro e w6 ⟨rfl,rfl⟩;go_wp2_with fail;refine(sJ hst.o.goes.at_ vM.o j).mono ?_;rw[hst.o.view,Q7.o.2];rintro e w7 ⟨M7,rfl,yO,hv7⟩;obtain⟨hs7,Tv,hf7⟩:=hst.o.erase yO hv7 hlt;have mZ:=az hs7;clear hs7 yO hv7 hst HBM vM Q7 HGJ;go_wp2;go_roundw
   case rel=>exact⟨j+1,M7,aa,by go_num,mZ⟩
   case measure=>simp[intOf];omega
  obtain rfl:j=M.B:=aa;have HST:=az hst.o;have HVW:Hid (Mj.view=FP.bV M.view):=az hst.o.view;have Tt:Hid (gW (FP.bV M.view)):=az (qd HG.o M.B);have vM:Hid Mj.view.ok:=az (by rw[HVW.o];exact Tt.o.ok);clear hst hj hlt;go_wp2_with fail;refine(uw HST.o.goes.at_ vM.o).mono ?_;rw[HVW.o];rintro e w8 ⟨rfl,wT⟩;have C8:=az (HST.o.goes.old wT);have Yl:=az (HST.o.arr.old wT);have zP:=az (HST.o.WE.old wT);clear wT HST;have g0:w8.cell? ⟨gb,0,none⟩=some (vi M.B):=zP.o.cell 0;have g1:w8.cell? ⟨gb,1,none⟩=some (vi M.P):=zP.o.cell 1;have g2:w8.cell? ⟨gb,2,none⟩=some (vi M.S):=zP.o.cell 2
  have WT:Hid (ac4 prog 83 #[adA #[vi M.B,vi M.P,vi M.S],vi aC,vi (FP.gX (FP.bV M.view))] w8 λe w'=>e=ab4 (vi ((M.B:Int)-FP.gX (FP.bV M.view)-aC-1))/\acN w8.heap.size w8 w') :=
   az (jM _ _ _ _ _ w8 (by have h1:=V4.o;have h2:=QF.o;have h3:=afv.o;omega))
  have lt3:=HD2.o;generalize hbw:FP.gX (FP.bV M.view)=bw at*;have uz:=az hbw;clear hbw;generalize (M.B:Int)-bw-aC-1=dw at*;go_wp2_with fail;refine WT.o.mono ?_;rintro e w9 ⟨rfl,ME⟩;have Ej:=az (C8.o.old ME);have HA9:=az (Yl.o.old ME);have KP:=az (zP.o.old ME);clear ME C8 Yl zP g0 g1 g2 WT;go_upto_region 26 with fail;have hmm:=@run_makeMap prog;have hmk:=CJ M.B aa;have g0:(((w9.alloc (.map #[] 0)).alloc (.map #[] 0)).alloc (.map #[] 0)).cell? ⟨gb,0,none⟩=some (vi M.B):=(((KP.o.alloc _).alloc _).alloc _).cell 0;go_upto_region 27 with fail
  have zq:=az (YM w9 M.B aa #[ptr k,(adj none:acK),vi aC,vi bw,aco none 0 0,.map (some w9.heap.size),.map (some (w9.heap.size+1)),.map (some (w9.heap.size+1+1)),vq 1,vq 1,aco (some ⟨w9.heap.size+1+1+1,0,none⟩) M.B M.B,acg false]);change Code.wp _ _ _ _ (GH w9 M.B #[ptr k,(adj none:acK),vi aC,vi bw,aco none 0 0,.map (some w9.heap.size),.map (some (w9.heap.size+1)),.map (some (w9.heap.size+1+1)),vq 1,vq 1,aco (some ⟨w9.heap.size+1+1+1,0,none⟩) M.B M.B,acg false]);clear g0 hmk hmm;generalize GH w9 M.B #[ptr k,(adj none:acK),vi aC,vi bw,aco none 0 0,.map (some w9.heap.size),.map (some (w9.heap.size+1)),.map (some (w9.heap.size+1+1)),vq 1,vq 1,aco (some ⟨w9.heap.size+1+1+1,0,none⟩) M.B M.B,acg false]=Xy at*
  have QG:=az zq.o.1;have VS:=az (Ej.o.old QG.o);have PE:=az (KP.o.old QG.o);have acv:=az ((acs HA9.o ai).old QG.o);rw[Nat.sub_self,List.replicate_zero,List.append_nil]at acv;have acw:=az Ej.o.size;clear Ej KP HA9;generalize w9.heap.size=b9 at*;have Xg:=Oy M.B aa;have g0:Xy.cell? ⟨gb,0,none⟩=some (vi M.B):=PE.o.cell 0;have QH:Hid (acN Xy.heap.size Xy (Xy.alloc (ach (madeCells #[vi 0] M.B) 3))):=az ax;have YN:=az (mgr.AQ (VS.o.at_.old QH.o) vM.o (abX hbase (abX VS.o.size QH.o.size)) _ _ M.B (acv.o.old QH.o) _ _ M.B (QB Xy M.B) aC bw)
  have HOE:Hid (jX Mj.view (aaA M.B true) (aaA M.B 0) aC bw=(0,some g)):=az (by rw[HVW.o];exact HO.o);rw[HOE.o,abP,abP]at YN;go_wp2_with fail;refine YN.o.mono ?_;rintro e w12 ⟨Hu,m,G,rfl,Z9,hGk,hGv,hGf⟩;have QI:=az (QH.o.trans (Hu.mono QH.o.size));have YO:=az (zq.o.2.2.2.2.2.old QI.o);have HFT:=az (bP.made (B:=M.B) (aC:=aC) (bad:=bw) Z9 (by rw[hGk];exact YO.o) (zq.o.2.1.old QI.o) (zq.o.2.2.1.old QI.o) (zq.o.2.2.2.1.old QI.o) (zq.o.2.2.2.2.1.old QI.o)
   (by have:=acw.o;omega) aa)
  have YP:Hid (aP (M.foot k) w' (w12.setCell ⟨b9+1+1+1+1,1,none⟩ (ptr m))):=az ((VS.o.aJ.below QI.o).setCell (p:=⟨b9+1+1+1+1,1,none⟩) (acm (by have:=acw.o;dsimp only;omega)) _);have HFO:Hid (∀n,({m:=m,G:=G,M:=Mj,aC:=aC,bad:=bw,ta:=none,tx:=[],tc:=0,bs:=b9,bn:=b9+1,bg:=b9+1+1,S:=[],N:=[],D:=[],seq:=1,aM:=1,lg:=b9+1+1+1,lc:=M.B,later:=aaA M.B false,over:=false}:dm).foot (b9+1+1+1+1) n->M.foot k n\/w'.heap.size<=n):=az (by
   intro n e
   have h9:=acw.o
   have h10:=VS.o.size
   have h11:=QH.o.size
   rcases e with e|e|e|e|e|e
   exact acm aa
   exact acm (by dsimp only at e;omega)
   exact acm (by dsimp only at e;omega)
   exact acm (by dsimp only at e;omega)
   exact acm (by dsimp only at e;omega)
   rcases e with e|e
   exact acm (by have:=hGf n e;omega)
   rw[hGk]at e;exact VS.o.foot n e)
  have HXV:Hid (({m:=m,G:=G,M:=Mj,aC:=aC,bad:=bw,ta:=none,tx:=[],tc:=0,bs:=b9,bn:=b9+1,bg:=b9+1+1,S:=[],N:=[],D:=[],seq:=1,aM:=1,lg:=b9+1+1+1,lc:=M.B,later:=aaA M.B false,over:=false}:dm).view=FP.begun M.view g aC):=az (by
   show FP.Ft.mk Mj.view G.view aC bw [] [] [] [] 1 1 (aaA M.B false) false=_
   rw[HVW.o,hGv,<-uz.o]
   rfl)
  have HKY:=az hGk;have c1:w12.cell? ⟨b9+1+1+1+1,1,none⟩=some (adj none):=YO.o.cell 1;have f1:=YO.o.frozen 1;clear Hu Z9 hGk hGv hGf YN HOE zq YO PE acv g0 Xg;go_upto_region 28 with fail;change Code.wp _ _ _ _ (w12.setCell ⟨b9+1+1+1+1,1,none⟩ (ptr m));clear c1 f1;generalize w12.setCell ⟨b9+1+1+1+1,1,none⟩ (ptr m)=w13 at*;generalize hX0:({m:=m,G:=G,M:=Mj,aC:=aC,bad:=bw,ta:=none,tx:=[],tc:=0,bs:=b9,bn:=b9+1,bg:=b9+1+1,S:=[],N:=[],D:=[],seq:=1,aM:=1,lg:=b9+1+1+1,lc:=M.B,later:=aaA M.B false,over:=false}:dm)=X0 at*;have HKY:Hid (X0.G.k=k):=az (by rw[<-hX0];exact HKY.o)
  clear hX0;generalize b9+1+1+1+1=f at*;have HSR:=az (HR.o.fD YP.o (λn e=>(H.o.mine n e).loose));have HSQ:=az (Seal_any HFT.o (by rw[HXV.o];exact Xx.o) (abX hbase YP.o.size) a text c HSR.o (by have:=HLEN.o;have h2:=QF.o;have h3:M.view.S=M.S:=rfl;omega) (0,F) (by rw[HXV.o];exact HS.o));go_wp2_with fail;refine HSQ.o.mono ?_;rintro e w14 ⟨X',rfl,VT,ajB⟩;have ajC:Hid (VQ aA w' k M w14 f X'):=az ⟨VT.at_,VT.key.1.trans HKY.o,YP.o.trans VT.aJ (λn hn e=>by
   rcases HFO.o n e with h|h
   exact h
   omega),λn e=>by
   rcases VT.foot n e with h|h
   exact HFO.o n h
   exact acm (abX YP.o.size h)⟩
  clear VT;go_wp2;go_ret2;exact⟨f,X',rfl,ajC.o,ajB⟩
def format_sound {c:NP.bX}{aC:Int}{text:List Nat}(ht:∀y∈text,y<256){F:FP.Ft}(hq:FP.formatN c aC text=some F)
  (hsd:∀g,jX (FP.bV c) (aaA c.B true) (aaA c.B 0) aC (FP.gX (FP.bV c))=(0,some g)->FP.Sound (FP.begun c g aC)):FP.Sound F:=by
 obtain⟨_,_,_,_,_,_,g,hopen,NS⟩:=FP.formatN_some hq;obtain⟨r,h1,h2⟩:=FP.Ck (hsd g hopen) rfl ⟨Nat.le_refl 1,(by decide:(1:Nat)<4611686018427387904)⟩ ⟨Nat.le_refl 1,(by decide:(1:Nat)<4611686018427387904)⟩ ht;rw[NS]at h1;injection h1 with h1;subst h1;exact h2.1
end ft
namespace FP
open mgr ft
def tT:NP.bX:=NP.blank 16 8 64
def zH:Ft:=(formatN tT 1 z56).getD dummy
def JK:formatN tT 1 z56=some zH:=ah
def Ml:(decide (83<=zH.cap)&&(decide (zH.cap<=100000)&&(decide (1<=zH.seq)&&(decide (zH.seq<=1000)&&(decide (1<=zH.aM)&&decide (zH.aM<=1000))))))=true:=ah
def acx:zH.text.length=56:=ah
def Mm:zH.bD=[(0,⟨0,0⟩)]/\zH.now=[]/\zH.gone=[]:=⟨by kernel_rfl,by kernel_rfl,by kernel_rfl⟩
def VU:zH.c.down=false/\zH.c.S=64:=⟨by kernel_rfl,by kernel_rfl⟩
def JL:gW tT:=OC (b:=16) (p:=8) (s:=64) (bad:=[]) rfl
def Wu:Mg:=((jX (bV tT) (aaA tT.B true) (aaA tT.B 0) 1 (gX (bV tT))).2).getD dummy.g
def VV:jX (bV tT) (aaA tT.B true) (aaA tT.B 0) 1 (gX (bV tT))=(0,some Wu):=ah
def afw (k:Nat):Bool:= !((bV tT).blk k).bad&&(!((bV tT).blk k).broken&&(decide ((Wu.blk k).s=0)&&(decide (((bV tT).blk k).next=0)&&decide ((Wu.blk k).l=0))))
def afx:(List.range 16).all afw=true:=ah
def tV {k:Nat}(h:k<16):((bV tT).blk k).bad=false/\((bV tT).blk k).broken=false/\(Wu.blk k).s=0/\((bV tT).blk k).next=0/\(Wu.blk k).l=0:=by
 have h1:=List.all_eq_true.1 afx k (List.mem_range.2 h);unfold afw at h1;simpa only[ac8,decide_eq_true_eq,Bool.not_eq_true'] using h1
def uH:(bV tT).B=16/\(bV tT).fs=[]/\(bV tT).down=false/\(aaA tT.B false).all (λx=> !x)=true/\(0<=gX (bV tT)/\gX (bV tT)<=65535):=⟨by kernel_rfl,by kernel_rfl,by kernel_rfl,by kernel_rfl,by decide +kernel,by decide +kernel⟩
def NT (g:Mg)(hg:jX (bV tT) (aaA tT.B true) (aaA tT.B 0) 1 (gX (bV tT))=(0,some g)):Sound (begun tT g 1):=by
 have e:g=Wu:=by rw[VV]at hg;injection hg with _ h;injection h with h;exact h.symm
 subst e;have hf:Fit (begun tT Wu 1):=QE (qd JL _) VV aa uH.2.2.2.2;have he:∀s n,(begun tT Wu 1).gM s n=none:=λs n=>by cases s<;>rfl
 refine⟨hf,⟨hf.good,hf.lL,uH.2.1,uH.2.2.1,λk hk=>?_,λk hk=>?_,λk hk h=>?_,λk hk _=>?_⟩,rfl,uH.2.2.2.1,λs n p e=>?_,λs n p s' n' e=>?_,λk hk=>?_,λn e=>?_⟩;exact⟨(tV (by rw[<-uH.1];exact hk)).1,(tV (by rw[<-uH.1];exact hk)).2.1⟩;rw[show ((begun tT Wu 1).g.blk k).s=0 from (tV (by rw[<-uH.1];exact hk)).2.2.1];decide;rw[show ((begun tT Wu 1).g.blk k).s=0 from (tV (by rw[<-uH.1];exact hk)).2.2.1]at h;cases h;exact(tV (by rw[<-uH.1];exact hk)).2.2.2.1;rw[he]at e;cases e;rw[he]at e;cases e;exact(tV (by rw[<-uH.1];exact hk)).2.2.2.2
 cases e
def QJ:∀y∈z56,y<256:=by intro y hy;rw[List.eq_of_mem_replicate hy];decide
def NU:Sound zH:=format_sound QJ JK NT
def afy:Fit zH:=NU.fit
def aaa (s:Bool)(n:Int)(hn:n≠0):zH.gM s n=none:=by
 unfold Ft.gM;rw[Mm.1,Mm.2.1];cases s;rfl;simp[MP.get];omega
def aab (n:Nat)(h1:1<=n)(h2:n<=82):zH.logical n=0:=by
 have h:=Ml;simp only[ac8,decide_eq_true_eq]at h;unfold Ft.logical;rw[VU.1];rw[if_neg ai,if_neg aa]
def afz (n:Nat)(h:n≠0):zH.at_ n=none:=by
 rw[nU,aaa _ _ aa,aaa _ _ aa];simp
def afA (n:Nat)(h:n≠0):zH.see n=none:=by
 unfold Ft.see;rw[afz n h];rfl
def acy (n:Nat)(h1:1<=n)(h2:n<=82):(zH.read n).1=([],60):=by
 unfold Ft.read;rw[aab n h1 h2,afz n aa];rfl
def ajD:GG 82 1000 1000 zH:=by
 have h:=Ml;simp only[ac8,decide_eq_true_eq]at h;refine⟨NU,?_,⟨h.2.2.1,h.2.2.2.1⟩,⟨h.2.2.2.2.1,h.2.2.2.2.2⟩,VU.2,aab,λn h e=>absurd (afA n h) e⟩;unfold yh;rw[Mm.2.1];rfl
end FP
namespace po
open RowKit mgr ft ino df
def rP (P:Int):Po:=⟨1,P,0,[],[],λ_=>zs,FP.GG 82 1000 1000⟩
def rI (k:Nat):PI.bF:=⟨1,k,0,[0,0,0,0,0,0],0,0⟩
def aac {P:Int}(h:1<=P/\P<=80):(rP P).ok :=
 ⟨⟨by show (1:Int)<=1;omega,by show (1:Int)<=8192;omega,h.1,by show P<=8192;omega,by show (0:Int)<=0;omega,by show (0:Int)<=65535;omega,by show 1+P<=8191;omega⟩,MP.EO,MP.EO,(λn e=>Bool.noConfusion e),(λn e=>Bool.noConfusion e),(λn l e=>by simp[rP,MP.get]at e),λF F' e g=>FP.GG.still e g⟩
def JM (i:PI.bF):Prop:=i.direct=[0,0,0,0,0,0]/\i.single=0/\i.double=0
def wR (p:Po)(k:Nat):p.ptr 0 k=0:=by unfold Po.ptr;rw[if_pos rfl]
variable{i:PI.bF}
def at_bare {p:Po}(h:JM i)(n:Nat):p.at_ i n=0:=by
 unfold Po.at_;rw[h.1,h.2.1,h.2.2,wR,wR,wR];repeat' split
 all_goals first|rfl|skip
 rename_i hn;rcases (by omega:n=0\/n=1\/n=2\/n=3\/n=4\/n=5) with rfl|rfl|rfl|rfl|rfl|rfl<;>rfl
def iF {p:Po}(h:JM i)(s:Slot):p.slot i s=0:=by
 cases s with
 |one=>exact h.2.1
 |lQ=>exact h.2.2
 |sec k =>
  unfold Po.slot;dsimp only;rw[h.2.2,wR];split<;>rfl
 |dat n=>exact at_bare h n
def EK {p:Po}(h:JM i)(x:Nat):p.byte i x=0:=Po.tC (at_bare h _)
variable{is:Nat->PI.bF}
def fl_bare {p:Po}(hp:p.ok)(hU:p.U=[])(h:∀j,JM (is j))(hs:∀j,(is j).size=0)(N:Nat):Fl p N is (λ_=>DF.none_):=by
 have hh:∀x,MP.has p.U x=false:=λx=>by rw[hU];rfl
 refine⟨⟨hp,⟨λj s e=>absurd (iF (h j) s) e,λj s j' s' e=>absurd (iF (h j) s) e,λx e=>by rw[hh]at e;cases e⟩,λj=>⟨?_,?_,?_⟩,λj=>by rw[(h j).1];rfl,λx e=>by rw[hh]at e;cases e⟩,λj=>(hs j).symm,λj n=>?_,λj x=>(EK (h j) x).symm,λ_=>DF.Np,λj x _=>EK (h j) x,λj _ s=>iF (h j) s⟩;exact⟨λ_ k _=>iF (h j) _,λ_=>iF (h j) _⟩;intro a _;exact⟨λ_ k _=>iF (h j) _,λ_=>iF (h j) _⟩;exact⟨λ_ k _=>iF (h j) _,λ_=>iF (h j) _⟩
 ·show false=p.gG (is j) n;unfold Po.gG;rw[at_bare (h j)];rfl
def YQ (k:Nat):JM (rI k):=⟨rfl,rfl,rfl⟩
def YR {p:Po}(h:o6 p is)(j:Nat)(hz:∀n,p.gG (is j) n=false):JM (is j):=by
 have h0:∀n,p.at_ (is j) n=0:=λn=>abr.1 (hz n);have hf:=h.full j;have h6:=h.six j;obtain⟨d0,d1,d2,d3,d4,d5,hd⟩:=six (l:=(is j).direct) h6;have e:∀n,n<6->(is j).direct.getD n 0=0:=λn hn=>by
  have:=h0 n;unfold Po.at_ at this;rwa[if_pos hn]at this
 rw[hd]at e;refine⟨?_,hf.one.2 (λk _=>h0 _),hf.lQ.2 (λa ha=>(hf.sec a ha).2 (λb _=>h0 _))⟩;rw[hd];have e0:d0=0:=e 0 aa;have e1:d1=0:=e 1 aa;have e2:d2=0:=e 2 aa;have e3:d3=0:=e 3 aa;have e4:d4=0:=e 4 aa;have e5:d5=0:=e 5 aa;rw[e0,e1,e2,e3,e4,e5]
def nL:aH (λ_=>false)=0:=by
 unfold aH iU iC dU;simp
def wS (F:DF):(F.cut 0).z=λ_=>false:=by
 funext n;show (F.z n&&decide (64*n<0))=false;simp
def VW (w:acL)(K:Nat->Prop):pU w K DF.none_ none 0 0 none 0 :=
 ⟨DF.Np,by rw[show pg DF.none_.z=[] from Gh];rfl,ack ⟨rfl,by rw[show pg DF.none_.z=[] from Gh];rfl,rfl⟩,Off.none K w,⟨[],ack ⟨rfl,rfl,rfl⟩,by rw[show pg DF.none_.z=[] from Gh];exact⟨rfl,λk l e=>by simp at e⟩⟩,Off.none K w⟩
end po
namespace lw
open RowKit mgr ft pl ino po df
section
variable{ops:Array Oper}{rest:List Oper}{o:Oper}{a:Act}{w:acL}{g:Nat}{C:Nat->acK}{D:Array acK}{Q:Exit->Act->acL->Prop}
def uI (hgd:o.guard=none)(x y:Operand)(ho:o.op=.store 37 x y)(hx:a.eval x=adj (some ⟨g,0,none⟩))(hy:a.eval y=adA (aI C))(hb:aD w g 37 D)(hD:D.size=46)(h1:One C)
  (h:∀W',aD W' g 37 (aI C)->aP (λn=>n=g) w W'->wpList prog ops Q rest (a.put o.dst undef) W'):wpList prog ops Q (o::rest) a w :=
 ko hgd x y ho hx hy hb hD h1 (h _ (gy hb hD C) (dh w g C))
def fU {t:TypeId}(ht:t=37)(hgd:o.guard=none)(x y:Operand)(ho:o.op=.store 37 x y)(hx:a.eval x=adj (some ⟨w.heap.size,0,none⟩))(hy:a.eval y=adA (aI C))(hD:D.size=46)(h1:One C)
  (h:∀W',aD W' w.heap.size 37 (aI C)->acN w.heap.size w W'->wpList prog ops Q rest (a.put o.dst undef) W'):wpList prog ops Q (o::rest) a (w.alloc (ach D t)):=by
 subst ht;refine uI hgd x y ho hx hy (aD.new w _ D) hD h1 λW' hb hc=>h W' hb ?_
 have h2:acN w.heap.size w (w.alloc (ach D 37)):=ax;exact h2.trans (hc.dX (λn _ e=>by rw[e];exact aj) h2.size)
def QK {K:Act->acL->Prop}{E:Prop}(hgd:o.guard=none)(x:Operand)(ho:o.op=.load 37 x)(hx:a.eval x=adj (some ⟨g,0,none⟩))(hb:aD w g 37 (aI C))
  (h:K (a.put o.dst (adA (aI C))) w):if Region.wanted o (yielded ops a.tmps)=true then Oper.wp prog o a w K Q else E:=by
 rw[if_pos (rV hgd)];unfold Oper.wp;rw[tF x ho hx hb];exact h
end
variable{aA:Nat}{w:acL}{k:Nat}
def YS {M:dA}(h:aT aA w k M)(hv:M.view=FP.tT)(hbase:aA<=w.heap.size)(a:Option Addr)(hr:dx aA w a FP.z56) :
  ac4 prog 50 #[ptr k,.int .i64 1,aco a 56 56] w λe w'=>∃f X,e=ab4 (adg #[ptr f,vi 0])/\VQ aA w k M w' f X/\X.view=FP.zH/\X.Fit:=by
 have h1:=agX h (by rw[hv];exact FP.JL) hbase 1 a FP.z56 56 hr FP.zH (by rw[hv];exact FP.JK) (by rw[hv];exact FP.NT);refine h1.mono ?_;rintro e w' ⟨f,X,rfl,hn,hx⟩;refine⟨f,X,rfl,hn,hx,?_⟩;show Fit X.view;rw[hx];exact FP.afy
variable{P:Int}
def fresh_pq {w4:acL}{q f bu bd:Nat}{X:dm}(hP:1<=P/\P<=80)(hpl:fE w4 q ⟨f,1,2,P,0,64,bu,bd,[],[]⟩)(hN:bP aA w4 f X)(hx:X.Fit)(hv:X.view=FP.zH)
  (hd:∀n,n=q\/n=bu\/n=bd->¬X.foot f n) (hl:aA<=bu/\aA<=bd/\aA<=q):PQ aA w4 q (po.foot ⟨f,1,2,P,0,64,bu,bd,[],[]⟩ X) (rP P):=by
 refine⟨⟨f,1,2,P,0,64,bu,bd,[],[]⟩,X,⟨hpl,hN,hx,λn e=>hd n e,hl,⟨rfl,rfl,rfl,rfl,rfl⟩,rfl,λn=>ack ⟨rfl,rfl⟩,λn h1 _=>?_,aac hP,?_⟩,rfl⟩;have hn:n=1:=by
  unfold Po.there rP at h1;simp only[Bool.or_eq_true,ac8,decide_eq_true_eq]at h1;rcases h1 with h1|h1;omega;exact absurd h1 (by simp[MP.has,MP.get])
 subst hn;rw[hv];exact⟨rfl,λy hy=>by rw[List.eq_of_mem_replicate hy];decide,ack ⟨FP.acy 1 aa aa,rfl⟩⟩;show FP.GG 82 1000 1000 X.view;rw[hv];exact FP.ajD
def fresh_any (aA:Nat)(w:acL)(hbase:aA<=w.heap.size)(P:Int)(hP:1<=P/\P<=80):ac4 prog 26 #[vi 64,vi 16,vi P] w λe w'=>∃q K,e=ab4 (ptr q)/\PQ aA w' q K (rP P)/\acN w.heap.size w w'/\∀n,KQ K q n->w.heap.size<=n:=by
 have acn:∀w:acL,(Instr.makeSlice 23 (.int .i64 56) (.int .i64 56)).run prog w=.ok (aco (some ⟨w.heap.size,0,none⟩) 56 56) (w.alloc (ach (madeCells #[vb 0] 56) 5)):=λw=>gp 56 aa w;have HP:=az hP;clear hP;go_in;go_wp2_with fail;refine(WG aA 16 8 64 none [] 0 _ (ack rfl) (Nat.zero_le _) hbase).mono ?_;rintro e w1 hn;rw[show NP.new 16 8 64 []=some FP.tT from rfl]at hn;obtain⟨k,M,rfl,hm,hv⟩:=hn;have HM:=az hm;have HV:=az hv;clear hm hv;go_wp2_with fail;have HB2:Hid (acN w1.heap.size w1 (w1.alloc (ach (madeCells #[vb 0] 56) 5))):=az ax
 have HF:=az (YS (HM.o.at_.old HB2.o) HV.o (abX hbase (abX HM.o.below.size HB2.o.size)) _ (mK w1 56));have HW2:=az (HM.o.below.trans (HB2.o.mono HM.o.below.size));have HMO:=az HM.o.own;clear acn HM HB2;generalize w1.alloc (ach (madeCells #[vb 0] 56) 5)=w2 at*;refine HF.o.mono ?_;rintro e w3 ⟨f,X,rfl,hnew,hxv,hxf⟩;have HN:=az hnew.at_;have HXV:=az hxv;have HXF:=az hxf;have HB3:Hid (acN w.heap.size w w3):=az (HW2.o.trans (hnew.aJ.dX (λn _ e=>HMO.o n e) HW2.o.size));have HTX:Hid (X.tx.length=56):=az (by rw[show X.tx=FP.zH.text from congrArg FP.Ft.text hxv];exact FP.acx)
 have HFO:Hid (∀n,X.foot f n->w.heap.size<=n):=az (λn e=>(hnew.foot n e).elim (HMO.o n) (λh=>abX HW2.o.size h));clear hnew hxv hxf HF HMO HW2 HV;go_wp2_with fail;have hcp:83<=X.view.cap/\X.view.cap<=100000:=by
  have h:=FP.Ml;simp only[ac8,decide_eq_true_eq]at h;rw[HXV.o];exact⟨h.1,h.2.1⟩
 have YN:Hid (ac4 prog 51 #[ptr f,adA #[.int .i64 1,.int .i64 2,vi P,.int .i64 0],aco none 0 0] w3 (Tc w3 f 1 2 P 0 64)):=az (by
  have h:=pl.AQ HN.o HXF.o 1 2 P 0 aa rfl (by have:=HP.o;omega) aa
  rw[HTX.o]at h
  exact h)
 clear hcp;refine YN.o.mono ?_;rintro e w4 ⟨q,bu,bd,rfl,hpl,hsz,hb4⟩;have zU:=az (fresh_pq (aA:=aA) HP.o hpl (HN.o.old hb4) HXF.o HXV.o (λn e e2=>by
  have:=HN.o.lt n e2
  rcases e with e|e|e<;>omega) ⟨by have:=HB3.o.size;omega,by have:=HB3.o.size;omega,by have:=HB3.o.size;omega⟩)
 have pI:Hid (acN w.heap.size w w4):=az (HB3.o.trans (hb4.mono HB3.o.size));have HKF:Hid (∀n,KQ (po.foot ⟨f,1,2,P,0,64,bu,bd,[],[]⟩ X) q n->w.heap.size<=n):=az (λn e=>by
  have h3:=HB3.o.size
  obtain⟨z1,z2,z3⟩:=hsz
  rcases e with (e|e|e)|e
  dsimp only at e;omega
  dsimp only at e;omega
  exact HFO.o n e
  omega)
 clear hpl hsz hb4 YN HN HB3 HTX HXV HXF;go_wp2;go_ret;exact⟨q,_,rfl,zU.o,pI.o,HKF.o⟩
def bg (q k m:Nat):Nat->acK:=λj =>
 if j=0 then ptr q else if j<34 then (if (j-1)/11<k then Jk (rI ((j-1)/11)) ((j-1)%11) else vi 0) else
  if (j-34)/4<m then (RF.mk 0 none 0 0 none 0).c ((j-34)%4) else if (j-34)%4<2 then vi 0 else aco none 0 0
def rD (_:Nat):RF:=⟨0,none,0,0,none,0⟩
def acz (q:Nat):aI (bg q 3 3)=aI (aO q rI rD):=ah
def acA (q k m:Nat):One (bg q k m):=⟨λj=>by
 unfold bg
 repeat' split
 all_goals first|rfl|exact Nu _ _|exact UQ _ _⟩
def ajE (q:Nat)(hk:k<3):aI (Wl (bg q k k) (1+k*11) [vi 1,vi k,vi 0,vi 0,vi 0,vi 0,vi 0,vi 0,vi 0,vi 0,vi 0])=aI (bg q (k+1) k):=by
 rcases (by omega:k=0\/k=1\/k=2) with rfl|rfl|rfl;kernel_rfl;kernel_rfl;kernel_rfl
def ajF (q:Nat)(hk:k<3):aI (Wl (bg q (k+1) k) (34+k*4) [vi 64,vi 0,aco none 0 0,aco none 0 0])=aI (bg q (k+1) (k+1)):=by
 rcases (by omega:k=0\/k=1\/k=2) with rfl|rfl|rfl;kernel_rfl;kernel_rfl;kernel_rfl
variable{C:Nat->acK}
def GI {w':acL}{g:Nat}{b:Bool}(hb:aD w' g 37 (aI C))(tmps:Array acK)(h2:tmps[2]?=some (adj (some ⟨g,0,none⟩)))(h3:tmps[3]?=some (acg b)) :
  (results Tryz.f19 tmps).run prog w'=.ok (adg #[adA (aI C),acg b]) w':=by
 have hl:=oU hb;simp only[results,results19];simp[h2,h3,hl,asAddr]
def EL {q:Nat}{K:Nat->Prop}(hP:1<=P/\P<=80)(h:PQ aA w q K (rP P)){Z:Nat->Prop}(hz:∀n,Z n->n<w.heap.size):dL aA w q K (rP P) rI (λ_=>DF.none_) rD 82 1000 1000 Z :=
 ⟨h,fl_bare (aac hP) rfl YQ (λ_=>rfl) 3,⟨rfl,by show (1:Int)+P<=((82:Nat):Int);omega⟩,λk _=>⟨VW _ _,rfl⟩,λk _=>⟨rfl,rfl⟩,hz⟩
def acB (aA:Nat)(w:acL)(e:Ending)(w':acL):Prop:=∃P q K,(1<=P/\P<=80)/\e=ab4 (adg #[adA (aI (aO q rI rD)),acg true])/\PQ aA w' q K (rP P)/\acN w.heap.size w w'/\∀n,KQ K q n->w.heap.size<=n
def sH (aA:Nat)(n:Int)(w:acL)(hbase:aA<=w.heap.size):ac4 prog 19 #[vi n] w (acB aA w):=by
 have aad:=az hbase;clear hbase;obtain⟨P,hPe⟩:∃P,P=1+n%80:=⟨_,rfl⟩;have hP:1<=P/\P<=80:=aa;have HP:=az hP;have r1:IntKind.i64.wrap (1+n%80)=P:=by rw[<-hPe];exact IntWalk.i64_in _ aa
 clear hPe hP;go_in;go_upto_region 1 with fail;have HR1:Hid (aD (w.alloc (ach (aI jQ) 37)) w.heap.size 37 (aI jQ)/\acN w.heap.size w (w.alloc (ach (aI jQ) 37))):=az ⟨aD.new w _ _,ax⟩;change Code.wp _ _ _ _ (w.alloc (ach (aI jQ) 37));generalize w.alloc (ach (aI jQ) 37)=w1 at*;obtain⟨r,hr⟩:∃r,r=w.heap.size:=⟨_,rfl⟩;rw[<-hr]at HR1 ⊢;have HRW:Hid (r=w.heap.size):=az hr;clear hr;go_wp2_with fail;refine(mf n 80 w1 aa aa).mono ?_;rintro e1 w2 ⟨rfl,rfl⟩;go_wp2_with fail;refine(fresh_any aA w2 (abX aad.o (by have h:=HR1.o.2;rw[HRW.o]at h;exact h.size)) P HP.o).mono ?_
 rintro e1 w3 ⟨q,K,rfl,hq,hb3,hkf⟩;have HKR:Hid (¬KQ K q r):=az (λe=>by
  have h1:=hkf _ e
  have h2:=HR1.o.1.lt
  omega)
 have jU:Hid (∀n,KQ K q n->w.heap.size<=n):=az (λn e=>by
  have h1:=hkf n e
  have h2:=HR1.o.2
  rw[HRW.o]at h2
  exact abX h2.size h1)
 clear hkf;have HQ:=az hq;have HB3:=az hb3;clear hq hb3 r1;have H1:=az (acA q 0 0);go_upto_region 2 with (refine fU (C:=bg q 0 0) rfl rfl (agq 4) (agq 10) rfl rfl ah rfl H1.o ?_;intro w4 hb4 hl4;have nJ:=az hb4;have uf:=az hl4;clear hb4 hl4);obtain⟨x,hx⟩:∃x,x=w3.heap.size:=⟨_,rfl⟩;rw[<-hx]at nJ uf ⊢;have HXG:Hid (r<x/\w.heap.size<=x/\¬KQ K q x):=az (by
  have h1:=HR1.o.1.lt
  have h2:=HB3.o.size
  have h3:=HRW.o
  refine⟨aa,aa,λe=>?_⟩
  rcases e with e|e
  have:=HQ.o.lt _ e;omega
  have:=HQ.o.JV;omega)
 have HL2:Hid (acN w.heap.size w w2):=az (by have h:=HR1.o.2;rwa[HRW.o]at h);have vJ:Hid (acN w.heap.size w w4):=az ((HL2.o.trans (HB3.o.mono HL2.o.size)).trans (uf.o.mono HXG.o.2.1));have Wn:=az (HQ.o.old (by rw[<-hx];exact uf.o));have HR4:=az ((HR1.o.1.old HB3.o).old (by rw[<-hx];exact uf.o));have HK:Hid (∀n,KQ K q n->n<x):=az (λn e=>by
  rw[hx]
  rcases e with e|e
  exact HQ.o.lt _ e
  rw[e];exact HQ.o.JV)
 clear hx uf HL2 HB3 HR1 HQ H1;go_wp2_with fail;go_loopw [5] (λv5 wr=>∃k:Nat,v5=vi k/\k<=3/\Hid (aD wr x 37 (aI (bg q k k))/\aP (λn=>n=x) w4 wr)) (λk _=>3-(intOf k).toNat)
 case atStart=>exact⟨0,rfl,aa,az ⟨nJ.o,aP.refl _ _⟩⟩
 case round =>
  obtain⟨k,rfl,hk3,hin⟩:=hrel;by_cases hk:k<3
  ·have eX:=az hin.o;have HK:=az hk;have n1:(k:Int)<3:=aa;have r2:IntKind.i64.wrap ((k:Int)+1)=((k+1:Nat):Int):=by rw[IntWalk.i64_in _ aa];omega
   clear hin hk;go_upto_region 6 with (refine tH (cs:=#[vi 1,vi k,vi 0,vi 0,vi 0,vi 0,vi 0,vi 0,vi 0,vi 0,vi 0]) rfl (agq 19) (agq 17) rfl rfl rfl eX.o.1 (by have:=HK.o;simp;omega) ah ah ?_;intro w5 hx5 hq;have HI2:Hid (aD w5 x 37 (aI (bg q (k+1) k))/\aP (λn=>n=x) w4 w5):=az ⟨by rw[<-ajE q HK.o];exact hx5,eX.o.2.trans hq (λ_ _ e=>e)⟩;clear hx5 hq);go_upto_region 4 with (refine tH (cs:=#[vi 64,vi 0,aco none 0 0,aco none 0 0]) rfl (agq 23) (agq 21) rfl rfl rfl HI2.o.1 (by have:=HK.o;simp;omega) ah ah ?_;intro w6 hx6 hq;have HI3:Hid (aD w6 x 37 (aI (bg q (k+1) (k+1)))/\aP (λn=>n=x) w4 w6):=az ⟨by rw[<-ajF q HK.o];exact hx6,HI2.o.2.trans hq (λ_ _ e=>e)⟩;clear hx6 hq)
   go_wp2;go_roundw
   case rel=>exact⟨k+1,by first|rfl|trivial|go_num|(congr 1;omega),HK.o,HI3⟩
   case measure=>have:=HK.o;simp[intOf];omega
  obtain rfl:k=3:=aa;have eX:=az hin.o;clear hin;have HX:=az eX.o.1;have HCH:Hid (aP (λn=>n=x) w4 wr):=az eX.o.2;rw[acz]at HX;have H1:=az (fu q rI rD);have ql:=az (HR4.o.aJ HCH.o (λe=>by have:=HXG.o.1;omega));have hi:∀W',aD W' x 37 (aI (aO q rI rD))->W'.cell? ⟨x,0,none⟩=some (ptr q):=λW' h=>(gu h).1 0 aa;clear eX;have HXN:Hid (x≠r):=az (by have:=HXG.o.1;omega);have HW:Hid (aD (cZ wr.drew r (aO q rI rD)) r 37 (aI (aO q rI rD))/\PQ aA (cZ wr.drew r (aO q rI rD)) q K (rP P)/\acN w.heap.size w (cZ wr.drew r (aO q rI rD))):=az (by
   have qJ:aD wr.drew r 37 (aI jQ):=ql.o.drew
   have hc1:aP (λn=>n=x\/n=r) w4 (cZ wr.drew r (aO q rI rD)):=(HCH.o.drew.mono (λ_ _ e=>ack e)).trans (dh _ _ _) (λ_ _ e=>acm e)
   have hlx:x<wr.heap.size:=HX.o.lt
   have hrx:=HXG.o
   have hnr:¬KQ K q r:=HKR.o
   have hb:=aad.o
   have hrw:=HRW.o
   refine⟨gy qJ rfl _,?_,vJ.o.trans (hc1.dX (λn _ e=>aa) vJ.o.size)⟩
   refine Wn.o.aJ hc1 (λn e=>?_) (λn e e2=>?_) (λe=>?_)
   rcases e with rfl|rfl
   exact Loose.blk aa nJ.o
   exact Loose.blk aa HR4.o
   rcases e2 with rfl|rfl
   exact hrx.2.2 (ack e)
   exact hnr (ack e)
   rcases e with rfl|rfl
   exact hrx.2.2 (acm rfl)
   exact hnr (acm rfl))
  go_upto_region 7 with fail;refine agr (S:=λW'=>aD W' x 37 (aI (aO q rI rD))) ah (HX.o.drew) (λhHeld=>?_);change wpAnyH _ _ _ _ _ 6 #[false,false,false,false,false,false] _ wr.drew;refine tkr 0 (agq 4) (λ_ h=>h) ?_;simp only[ay,afD];refine tk 1 ?_;simp only[ay,afD];refine tk 2 ?_;simp only[ay,afD];refine tk 3 ?_;simp only[ay,afD]
  refine rW 4 λK hK=>?_
  refine kr rfl (agq 2) (agq 24) rfl rfl rfl ql.o.drew rfl H1.o ?_;refine hK.out _ _ ((HX.o.drew.aJ (dh _ _ _) (λe=>HXN.o e))) (λ_=>?_);clear hK K;simp only[ay,afD];refine rW 5 λK hK=>?_
  go_simp;refine hK.out _ _ ((HX.o.drew.aJ (dh _ _ _) (λe=>HXN.o e))) (λ_=>?_);clear hK K;simp only[ay,afD];refine ags ah ?_ _;clear hHeld;generalize cZ wr.drew r (aO q rI rD)=we at*;go_wp2;exact ac5 (GI HW.o.1 _ rfl rfl) rfl ⟨P,q,K,HP.o,rfl,HW.o.2.1,HW.o.2.2,jU.o⟩
variable{aA:Nat}{w w':acL}{q:Nat}{K:Nat->Prop}
def QL (i:PI.bF)(h6:i.direct.length=6)(aF n:Int):ac4 prog 13 #[adj none,dS i,vi aF,vi n] w λe w'=>e=ab4 (adg #[aco none 0 0,vi 3])/\acN w.heap.size w w':=by
 obtain⟨kd,ln,sz,dl,sg,db⟩:=i;obtain⟨d0,d1,d2,d3,d4,d5,hdl⟩:=six (l:=dl) h6;subst hdl;clear h6;simp only[dS,j4];have HB:Hid (acN w.heap.size w (w.alloc (ach #[vi kd,vi ln,vi sz,vi d0,vi d1,vi d2,vi d3,vi d4,vi d5,vi sg,vi db] 29))):=az ax;go_in;go_wp2;go_ret2;exact⟨rfl,HB.o⟩
def acC:aH (um DF.none_.z 384 1)=2:=ah
def NV:aH DF.none_.z=0:=nL
def YT:kV DF.none_ 384 [5] 9=(0,DF.none_.put 384 [5]):=by
 have c:¬(aH DF.none_.z<aH (um DF.none_.z (384:Int).toNat [5].length)/\(9:Int)<(aH (um DF.none_.z (384:Int).toNat [5].length):Int)-aH DF.none_.z):=by
  show ¬(aH DF.none_.z<aH (um DF.none_.z 384 1)/\(9:Int)<(aH (um DF.none_.z 384 1):Int)-aH DF.none_.z);rw[acC,NV];omega
 unfold kV;rw[if_neg ag,if_neg ag,if_neg c];rfl
def NW (F:DF):outT F 0=(0,F.cut 0):=by
 unfold outT;rw[if_neg ag,if_neg ag];rfl
def JN {p':Po}{is:Nat->PI.bF}{Fs:Nat->DF}{i':PI.bF}{F:DF}(hfl:Fl p' 3 (bW is k i') (fsUp Fs k (F.cut 0))):JM i':=by
 have h:=YR hfl.fam k (λn=>by
  rw[<-hfl.z k n,fsUp_self,wS])
 rwa[aS]at h
def NY {i:PI.bF}(hb:JM i)(h1:i.aL=1)(h2:i.links=k)(h3:i.size=0):i=rI k:=by
 obtain⟨kd,ln,sz,dl,sg,db⟩:=i;obtain⟨b1,b2,b3⟩:=hb;dsimp only at b1 b2 b3 h1 h2 h3;subst b1 b2 b3 h1 h2 h3;rfl
def five_row (w:acL):dx aA (w.alloc (ach #[vb 5] 5)) (some ⟨w.heap.size,0,none⟩) [5]:=by
 refine⟨⟨λx hx=>by simp at hx;omega,acm ⟨w.heap.size,0,rfl,λi hi=>?_⟩⟩,acm ⟨w.heap.size,0,rfl,Safe.byte (aD.new w _ _)⟩⟩;have:i=0:=by simp at hi;omega
 subst this;exact(aD.new w _ _).cell 0
def YU (w:acL):(binOp .eql 29 (adA #[vi 1,vi 0,vi 0,vi 0,vi 0,vi 0,vi 0,vi 0,vi 0,vi 0,vi 0]) (adA #[vi 1,vi 0,vi 0,vi 0,vi 0,vi 0,vi 0,vi 0,vi 0,vi 0,vi 0])).run prog w=.ok (acg true) w:=ah
def jB (w:acL):ac4 prog 10 #[] w λe w'=>e=ab4 (acg true)/\acN w.heap.size w w':=by
 go_in;go_wp2_with fail;refine(fresh_any w.heap.size w aj 9 aa).mono ?_;rintro e w1 ⟨q,K,rfl,hq,hb1,_⟩;have HQ:=az hq;have HB1:=az hb1;clear hq hb1;have Wo:Hid (acN w1.heap.size w1 (w1.alloc (ach #[vb 5] 5))):=az ax;have lF:=az (EL aa (HQ.o.old Wo.o) (Z:=λ_=>False) (λ_ e=>e.elim));have JZ:Hid (ac4 prog 12 #[ptr q,adA #[vi 1,vi 0,vi 0,vi 0,vi 0,vi 0,vi 0,vi 0,vi 0,vi 0,vi 0],vi 384,aco (some ⟨w1.heap.size,0,none⟩) 1 1] (w1.alloc (ach #[vb 5] 5)) (kW w.heap.size (w1.alloc (ach #[vb 5] 5)) q K (rP 9) rI (λ_=>DF.none_) 0 (0,DF.none_.put 384 [5]))):=az (by
  have h:=p9 lF.o 0 aa 384 (some ⟨w1.heap.size,0,none⟩) [5] 1 (five_row w1) ag
  have e1:(rP 9).aK=9:=rfl
  rw[e1,YT]at h
  exact h)
 have HL1:Hid (w.heap.size<=w1.heap.size):=az HB1.o.size;go_wp2_with fail;refine JZ.o.mono ?_;rintro e2 w2 ⟨i',K2,p2,rfl,Jq,hcs⟩;have HG2:=az Jq;rcases hcs with⟨h,_⟩|⟨_,hfl,hi,hd⟩;exact absurd rfl h;have h6:i'.direct.length=6:=by have h:=hfl.fam.six 0;rwa[aS]at h
 have D6:=az hfl;have HI:=az hi;have HD:=az hd;have HS:Hid (i'.size=385):=az hi.2.2;obtain⟨kd,ln,sz,dl,sg,db⟩:=i';obtain⟨d0,d1,d2,d3,d4,d5,hdl⟩:=six (l:=dl) h6;subst hdl;have hsz:sz=385:=HS.o;subst hsz;simp only[dS,j4];have qF:Hid (aD (w2.alloc (ach #[vi kd,vi ln,vi (385:Nat),vi d0,vi d1,vi d2,vi d3,vi d4,vi d5,vi sg,vi db] 29)) w2.heap.size 29 #[vi kd,vi ln,vi (385:Nat),vi d0,vi d1,vi d2,vi d3,vi d4,vi d5,vi sg,vi db]):=az (aD.new _ _ _);have HB3:Hid (acN w2.heap.size w2 (w2.alloc (ach #[vi kd,vi ln,vi (385:Nat),vi d0,vi d1,vi d2,vi d3,vi d4,vi d5,vi sg,vi db] 29))):=az ax
 clear Jq hfl hi hd h6 JZ lF HS;have Q7:Hid (ac4 prog 23 #[ptr q,adA #[vi kd,vi ln,vi (385:Nat),vi d0,vi d1,vi d2,vi d3,vi d4,vi d5,vi sg,vi db],vi 0] (w2.alloc (ach #[vi kd,vi ln,vi (385:Nat),vi d0,vi d1,vi d2,vi d3,vi d4,vi d5,vi sg,vi db] 29)) (kW w.heap.size (w2.alloc (ach #[vi kd,vi ln,vi (385:Nat),vi d0,vi d1,vi d2,vi d3,vi d4,vi d5,vi sg,vi db] 29)) q K2 p2 (bW rI 0 ⟨kd,ln,385,[d0,d1,d2,d3,d4,d5],sg,db⟩) (fsUp (λ_=>DF.none_) 0 (DF.none_.put 384 [5])) 0 (0,(DF.none_.put 384 [5]).cut 0))):=az (by
  have h:=yn (HG2.o.at_.old HB3.o) D6.o 0 aa 0
  rw[aS,fsUp_self,NW]at h
  exact h)
 have iH:Hid (¬KQ K2 q w2.heap.size):=az (λe=>by
  rcases e with e|e
  have:=HG2.o.at_.lt _ e;omega
  have:=HG2.o.at_.JV;omega)
 go_upto_region 3 with fail;generalize w2.alloc (ach #[vi kd,vi ln,vi (385:Nat),vi d0,vi d1,vi d2,vi d3,vi d4,vi d5,vi sg,vi db] 29)=w3 at*;have HB2:Hid (acN w.heap.size w w2):=az ((HB1.o.trans (Wo.o.mono HL1.o)).trans (HG2.o.aJ.dX (λn _ e=>(HQ.o.loose n e).1) (abX HL1.o Wo.o.size)));have HLX:Hid (w.heap.size<=w2.heap.size):=az HB2.o.size;generalize w2.heap.size=x at*;obtain⟨x0,x1,x2,x3,x4,x5,x6,x7,x8,x9,JW⟩:=nK qF.o;go_wp2_with fail;refine Q7.o.mono ?_;rintro e4 w4 ⟨i2,K4,p4,rfl,acD,hcs⟩;rcases hcs with⟨h,_⟩|⟨_,acE,hi4,hd4⟩;exact absurd rfl h;have hi2:i2=rI 0:=NY (JN acE) (by rw[hi4.1,aS];exact HI.o.1) (by rw[hi4.2.1,aS];exact HI.o.2.1) hi4.2.2
 have hroom:p4.aK=9:=by
  rw[acE.aK];have e1:p4.P=9:=by rw[hd4.2.1,HD.o.2.1];rfl
  have e2:((List.range 3).map λj=>aH ((fsUp (fsUp (λ_=>DF.none_) 0 (DF.none_.put 384 [5])) 0 ((DF.none_.put 384 [5]).cut 0)) j).z).sum=0:=by
   show aH ((DF.none_.put 384 [5]).cut 0).z+(aH DF.none_.z+(aH DF.none_.z+0))=0;rw[wS,nL,NV]
  rw[e1];show (9:Int)-(((List.range 3).map λj=>aH ((fsUp (fsUp (λ_=>DF.none_) 0 (DF.none_.put 384 [5])) 0 ((DF.none_.put 384 [5]).cut 0)) j).z).sum:Nat)=9;rw[e2];rfl
 subst hi2;have qK:=az acD;have nJ:=az (acD.keep qF.o (λe=>iH.o (ack e))).1;have HRO:=az hroom;clear acD acE hi4 hd4 hroom Q7 D6 HI HD iH x0 x1 x2 x3 x4 x5 x6 x7 x8 x9 JW;have Tg:Hid (acN w.heap.size w w4):=az (by
  have h3:acN w.heap.size w w3:=HB2.o.trans (HB3.o.mono HLX.o)
  exact h3.trans (qK.o.aJ.dX (λn _ e=>(HG2.o.at_.loose n e).1) h3.size))
 have xR:Hid (aD (w4.alloc (ach #[vi 1,vi 0,vi 0,vi 0,vi 0,vi 0,vi 0,vi 0,vi 0,vi 0,vi 0] 29)) w4.heap.size 29 #[vi 1,vi 0,vi 0,vi 0,vi 0,vi 0,vi 0,vi 0,vi 0,vi 0,vi 0]):=az (aD.new _ _ _);have qG:Hid (acN w4.heap.size w4 (w4.alloc (ach #[vi 1,vi 0,vi 0,vi 0,vi 0,vi 0,vi 0,vi 0,vi 0,vi 0,vi 0] 29))):=az ax;have afB:=az (nJ.o.old qG.o);have Ex:=az (qK.o.at_.old qG.o);have zt:=az (Tg.o.trans (qG.o.mono Tg.o.size));rw[show dS (rI 0)=acK.agg #[vi 1,vi 0,vi 0,vi 0,vi 0,vi 0,vi 0,vi 0,vi 0,vi 0,vi 0] from rfl];go_upto_region 4 with fail
 clear qG nJ qK Tg;generalize w4.alloc (ach #[vi 1,vi 0,vi 0,vi 0,vi 0,vi 0,vi 0,vi 0,vi 0,vi 0,vi 0] 29)=w5 at*;generalize w4.heap.size=y at*;obtain⟨x0,x1,x2,x3,x4,x5,x6,x7,x8,x9,JW⟩:=nK afB.o;have GK:=az (QL (w:=w5) ⟨kd,ln,385,[d0,d1,d2,d3,d4,d5],sg,db⟩ rfl 0 1);simp only[dS,j4]at GK;go_wp2_with fail;refine GK.o.mono ?_;rintro e6 w6 ⟨rfl,hb6⟩;have BU:=az (afB.o.old hb6);have HY6:=az (xR.o.old hb6);have Ja:=az (po.fP (Ex.o.old hb6));have HW6:=az (zt.o.trans (hb6.mono zt.o.size));rw[HRO.o]at Ja;clear hb6 GK x0 x1 x2 x3 x4 x5 x6 x7 x8 x9 JW
 have x2:w6.cell? ⟨x,2,none⟩=some (vi (385:Nat)):=BU.o.cell 2;obtain⟨y0,y1,y2,y3,y4,y5,y6,y7,y8,y9,y10⟩:=nK HY6.o;have hel:=YU;go_wp2_with fail;refine Ja.o.mono ?_;rintro e7 w7 ⟨rfl,tZ⟩;have HW7:=az (HW6.o.trans (tZ.mono HW6.o.size));clear tZ;go_wp2;go_ret;exact⟨rfl,HW7.o⟩
section
variable{w0:acL}{x:Nat}{K':Nat->Prop}{p p':Po}{is is':Nat->PI.bF}{Fs Qv:Nat->DF}{D D':Nat->RF}{a e a' e' i:Nat}{Z Z':Nat->Prop}
structure On (w0 w:acL)(q:Nat)(K:Nat->Prop)(p:Po)(is:Nat->PI.bF)(Fs:Nat->DF)(D:Nat->RF)(a e i:Nat)(Z:Nat->Prop):Prop where
 run:dL w0.heap.size w q K p is Fs D 82 a e Z
 dW:acN w0.heap.size w0 w
 ae:a<=1000+9000*i/\e<=1000+i
 pp:1<=p.P/\p.P<=80
def On.begin (hP:1<=P/\P<=80)(h:PQ w0.heap.size w q K (rP P))(hb:acN w0.heap.size w0 w)(hz:∀n,Z n->n<w.heap.size):On w0 w q K (rP P) rI (λ_=>DF.none_) rD 1000 1000 0 Z:=⟨EL hP h hz,hb,⟨by omega,by omega⟩,hP⟩
def On.old (h:On w0 w q K p is Fs D a e i Z)(hb:acN w.heap.size w w'):On w0 w' q K p is Fs D a e i Z:=⟨h.run.old hb,h.dW.trans (hb.mono h.dW.size),h.ae,h.pp⟩
def On.loose (h:On w0 w q K p is Fs D a e i Z):∀n,KQ K q n->w0.heap.size<=n:=λn hn=>(h.run.loose n hn).1
def On.below (h:On w0 w q K p is Fs D a e i Z)(g:gF w q K w' K'):acN w0.heap.size w0 w':=h.dW.trans (g.aJ.dX (λn _ e=>h.loose n e) h.dW.size)
def CL (w0 w:acL)(q:Nat)(K:Nat->Prop)(is:Nat->PI.bF)(Fs:Nat->DF)(i:Nat)(Z:Nat->Prop)(k:Nat)(en:Ending)(w':acL):Prop :=
 ∃K' p' is' Qv D' a' e',en=ab4 (adg #[adA (aI (aO q is' D')),acg true])/\On w0 w' q K' p' is' Qv D' a' e' (i+1) Z/\gF w q K w' K'/\(∀j,j≠k->Qv j=Fs j/\is' j=is j)
def On.step (h:On w0 w q K p is Fs D a e i Z)(hi:i<1000)(o:eQ)(ho:o.ok w0.heap.size w):ac4 prog 17 #[adA (aI (aO q is D)),adA o.cs.toArray] w (CL w0 w q K is Fs i Z (file3 o.file)):=by
 obtain⟨h1,h2⟩:=h.ae;refine(VO h.run o ho ⟨aa,aa⟩).mono ?_;rintro en w' ⟨K',p',is',Qv,D',a',e',rfl,hr,hg,hae,hj,hP⟩;exact⟨K',p',is',Qv,D',a',e',rfl,⟨hr,h.below hg,⟨aa,aa⟩,by rw[hP];exact h.pp⟩,hg,hj⟩
def On.less (h:On w0 w q K p is Fs D a e i Z)(hs:∀n,Z' n->Z n):On w0 w q K p is Fs D a e i Z' :=
 ⟨⟨h.run.pq,h.run.fl,h.run.gg,λj hj=>⟨(h.run.df j hj).1.sub (λn e=>e.elim ack (λe=>acm (hs n e))),(h.run.df j hj).2⟩,h.run.ino,λn e=>h.run.zlt n (hs n e)⟩,h.dW,h.ae,h.pp⟩
def On.jg (h:On w0 w q K p is Fs D a e i Z){cs:Array acK}(hb:aD w x 37 cs)(hz:Z x)(hn:¬KQ K q x)(hx:w0.heap.size<=x)(hc:aP (λn=>n=x) w w'):On w0 w' q K p is Fs D a e i Z:=by
 refine⟨⟨?_,h.run.fl,h.run.gg,λj hj=>⟨(h.run.df j hj).1.jg (acm hz) hc,(h.run.df j hj).2⟩,h.run.ino,h.run.zgo hc.size⟩,h.dW.trans (hc.dX (λn _ e=>by rw[e];exact hx) h.dW.size),h.ae,h.pp⟩;exact h.run.pq.aJ hc (λn e=>by rw[e];exact Loose.blk hx hb) (λn hk e=>hn (ack (by rw[<-e];exact hk))) (λe=>hn (acm e.symm))
variable{y:Option Addr}{l:List eQ}
def On.ops (h:On w0 w q K p is Fs D a e i Z)(hl:fe w0.heap.size w0 y l):fe w0.heap.size w y l:=hl.old h.dW
def On.op (h:On w0 w q K p is Fs D a e i Z){o:eQ}(ho:o.ok w0.heap.size w0):o.ok w0.heap.size w:=ho.old h.dW
def YV (w0:acL)(n:Nat)(en:Ending)(w':acL):Prop:=∃q K p is Fs D a e,en=ab4 (adg #[adA (aI (aO q is D)),acg true])/\On w0 w' q K p is Fs D a e n (λ_=>False)
def JO {W:acL}(h:fe aA W y l)(hk:k<l.length):∃b o,y=some ⟨b,o,none⟩/\(∀W',fe aA W' y l->(W'.cell? ⟨b,o+k*5,none⟩=some (vi (l.getD k default).aL)/\W'.cell? ⟨b,o+k*5+1,none⟩=some (vi (l.getD k default).file)/\W'.cell? ⟨b,o+k*5+2,none⟩=some (vi (l.getD k default).aF)/\W'.cell? ⟨b,o+k*5+3,none⟩=some (vi (l.getD k default).n)/\W'.cell? ⟨b,o+k*5+4,none⟩=some (aco (l.getD k default).ba (l.getD k default).b.length (l.getD k default).bc)))/\(l.getD k default).ok aA W:=by
 obtain⟨b,o,hy,_,_,hok⟩:=h.lookup hk;refine⟨b,o,hy,λW' h'=>?_,hok⟩;obtain⟨b',o',hy',_,hc,_⟩:=h'.lookup hk;rw[hy]at hy';injection hy' with e;injection e with e1 e2;subst e1 e2;exact⟨hc 0 _ rfl,hc 1 _ rfl,hc 2 _ rfl,hc 3 _ rfl,hc 4 _ rfl⟩
def DT {g:Nat}{b:Bool}(hb:aD w' g 37 (aI C))(tmps:Array acK)(h2:tmps[4]?=some (adj (some ⟨g,0,none⟩)))(h3:tmps[5]?=some (acg b)) :
  (results Tryz.f11 tmps).run prog w'=.ok (adg #[adA (aI C),acg b]) w':=by
 have hl:=oU hb;simp only[results,results11];simp[h2,h3,hl,asAddr]
def afC (w0:acL)(q:Nat)(x r:Nat)(k:Nat)(wr:acL):Prop :=
 ∃K p is Fs D a e,On w0 wr q K p is Fs D a e k (λn=>n=x\/n=r)/\aD wr x 37 (aI (aO q is D))/\¬KQ K q x/\aD wr r 37 (aI jQ)/\¬KQ K q r
def vo (w0:acL)(n:Int)(y:Option Addr)(l:List eQ)(c:Nat)(w:acL)(hb0:acN w0.heap.size w0 w)(hl:fe w0.heap.size w0 y l)(hn:owt l<=20000):ac4 prog 11 #[vi n,aco y l.length c] w (YV w0 l.length):=by
 have HL:=az hl;have HB0:=az hb0;have hlen:l.length<=500:=by have:=Fu l;omega
 have HLEN:=az hlen;clear hl hn hlen hb0;go_in;have HR1:Hid (aD (w.alloc (ach (aI jQ) 37)) w.heap.size 37 (aI jQ)/\acN w.heap.size w (w.alloc (ach (aI jQ) 37))):=az ⟨aD.new w _ _,ax⟩;go_upto_region 1 with fail;change Code.wp _ _ _ _ (w.alloc (ach (aI jQ) 37));generalize w.alloc (ach (aI jQ) 37)=w1 at*;obtain⟨r,hr⟩:∃r,r=w.heap.size:=⟨_,rfl⟩;have HRW:Hid (r=w.heap.size):=az hr;rw[<-hr]at HR1 ⊢;clear hr;go_wp2_with fail;have HW1:Hid (acN w0.heap.size w0 w1):=az (by
  have h:=HR1.o.2
  rw[HRW.o]at h
  exact HB0.o.trans (h.mono HB0.o.size))
 refine(sH w0.heap.size n w1 HW1.o.size).mono ?_;rintro e1 w2 ⟨P,q,K,hP,rfl,hpq,hb2,hlow⟩;have HB2:Hid (acN w0.heap.size w0 w2):=az (HW1.o.trans (hb2.mono HW1.o.size));have zU:=az hpq;have AR:=az hP;have HR2:=az (HR1.o.1.old hb2);have Sa:Hid (¬KQ K q r):=az (λe=>by have:=hlow _ e;have:=HR1.o.1.lt;omega);have vN:Hid (w0.heap.size<=r):=az (by rw[HRW.o];exact HB0.o.size);have H1:=az (fu q rI rD);clear hpq hb2 hlow hP;go_upto_region 2 with (refine fU (C:=aO q rI rD) rfl rfl (agq 6) (agq 12) rfl rfl rfl rfl H1.o ?_;intro w4 hb4 hl4;have nJ:=az hb4;have uf:=az hl4;clear hb4 hl4)
 have iH:Hid (¬KQ K q w2.heap.size):=az (λe=>by
  rcases e with e|e
  have:=zU.o.lt _ e;omega
  have:=zU.o.JV;omega)
 have HXB:Hid (w0.heap.size<=w2.heap.size/\r≠w2.heap.size):=az ⟨HB2.o.size,by have:=HR2.o.lt;omega⟩;have CO:Hid (afC w0 q w2.heap.size r 0 w4):=az ⟨K,_,_,_,_,_,_,On.begin AR.o (zU.o.old uf.o) (HB2.o.trans (uf.o.mono HB2.o.size)) (λn e=>by
  rcases e with e|e
  rw[e];exact nJ.o.lt
  rw[e];exact(HR2.o.old uf.o).lt),nJ.o,iH.o,HR2.o.old uf.o,Sa.o⟩
 obtain⟨x,hx⟩:∃x,x=w2.heap.size:=⟨_,rfl⟩;rw[<-hx]at CO HXB ⊢;clear hx uf HB2 HW1 HR1 HR2 nJ iH zU AR H1;go_wp2_with fail;go_loopw [7,8] (λv7 v8 wr=>∃k:Nat,v8=vi k/\k<=l.length/\v7=acg true/\Hid (afC w0 q x r k wr)) (λ_ k _=>l.length-(intOf k).toNat)
 case atStart=>exact⟨0,rfl,Nat.zero_le _,rfl,CO⟩
 case round =>
  obtain⟨k,rfl,hkl,rfl,hin⟩:=hrel;obtain⟨K3,p,is,Fs,D,a,e,hst⟩:=hin.o;have eX:=az hst;clear hin hst CO;by_cases hk:k<l.length
  ·have n1:(k:Int)<(l.length:Int):=aa;obtain⟨b,o0,rfl,hcl,hok⟩:=JO (eX.o.1.ops HL.o) hk;have r2:IntKind.i64.wrap ((k:Int)+1)=((k+1:Nat):Int):=by have:=HLEN.o;rw[IntWalk.i64_in _ aa];omega
   have HO0:Hid (fe w0.heap.size wr.drew (some ⟨b,o0,none⟩) l):=az ((eX.o.1.old (ac3 _ wr).drew).ops HL.o);have HX0:Hid (aD wr.drew x 37 (aI (aO q is D))):=az eX.o.2.1;obtain⟨o,ho⟩:∃o,o=l.getD k default:=⟨_,rfl⟩;rw[<-ho]at hcl hok;have HST:Hid (ac4 prog 17 #[adA (aI (aO q is D)),adA o.cs.toArray] wr.drew (CL w0 wr.drew q K3 is Fs k (λn=>n=x\/n=r) (file3 o.file))):=az (by
    have h1:=HLEN.o
    exact(eX.o.1.old (ac3 _ wr).drew).step aa o (hok.old (ac3 _ wr).drew))
   clear ho hok;obtain⟨aL,file,aF,nn,ba,bl,bc⟩:=o;dsimp only at hcl;have ajH:Hid (ac4 prog 17 #[adA (aI (aO q is D)),adA #[vi aL,vi file,vi aF,vi nn,aco ba bl.length bc]] wr.drew (CL w0 wr.drew q K3 is Fs k (λn=>n=x\/n=r) (file3 file))):=az HST.o;have jU:=az hk;clear HST hk hkl;go_upto_region 5 with fail;refine agr (S:=λW'=>fe w0.heap.size W' (some ⟨b,o0,none⟩) l) ah (HO0.o) (λhHeld=>?_);change wpAnyH _ _ _ _ _ 11 #[false,false,false,false,false,false,false,false,false,false,false] _ wr.drew;refine tk 1 ?_;simp only[ay,afD]
   refine tk 2 ?_;simp only[ay,afD];refine tk 3 ?_;simp only[ay,afD];refine tk 4 ?_;simp only[ay,afD];refine rW 0 λK hK=>?_
   refine QK rfl (agq 6) rfl rfl HX0.o ?_;refine hK.out _ _ (HO0.o) (λ_=>?_);clear hK K;simp only[ay,afD];refine rW 5 λK hK=>?_
   go_simp;go_at_call 17;refine ajH.o.mono ?_;rintro e2 w2 ⟨K2,p2,QM,Fs2,D2,a2,e3,rfl,hon,hg,hj⟩;obtain⟨hx2,hn2⟩:=hg.blk HX0.o eX.o.2.2.1;have HR2:=az (hg.blk eX.o.2.2.2.1.drew eX.o.2.2.2.2);have JP:=az hon;have lM:=az hx2;have Kq:=az hn2;have yz:=az (hon.ops HL.o);clear hon hg hj hx2 hn2;go_wp2_with fail;refine hK.out _ _ (yz.o) (λ_=>?_);clear hK K;simp only[ay,afD];refine tk 6 ?_;simp only[ay,afD];refine tk 7 ?_;simp only[ay,afD]
   refine tk 8 ?_;simp only[ay,afD];refine rW 9 λK hK=>?_
   refine kr rfl (agq 6) (agq 30) rfl rfl rfl lM.o rfl (fu q QM D2) ?_;have hst:=dh w2 x (aO q QM D2);have qF:=az (gy lM.o rfl (aO q QM D2));have HR3:=az (HR2.o.1.aJ hst HXB.o.2);have DU:=az (JP.o.jg lM.o (ack rfl) Kq.o HXB.o.1 hst);generalize cZ w2 x (aO q QM D2)=w3 at*;clear hst;refine hK.out _ _ ((DU.o.ops HL.o)) (λ_=>?_);clear hK K;simp only[ay,afD];refine rW 10 λK hK=>?_
   go_simp;refine hK.out _ _ ((DU.o.ops HL.o)) (λ_=>?_);clear hK K;simp only[ay,afD];refine ags ah ?_ _;clear hHeld;go_wp2;go_roundw
   case rel=>exact⟨k+1,by first|rfl|trivial|go_num|(congr 1;omega),jU.o,by first|rfl|trivial,az ⟨K2,p2,QM,Fs2,D2,a2,e3,DU.o,qF.o,Kq.o,HR3.o,HR2.o.2⟩⟩
   case measure=>have:=jU.o;simp[intOf];omega
  obtain rfl:k=l.length:=aa;have n1:¬((l.length:Nat):Int)<(l.length:Int):=aa;have Nn:=az eX.o.2.1;have HRR:=az eX.o.2.2.2.1;have H1:=az (fu q is D);have hst:=dh wr r (aO q is D);have ajI:=az (gy HRR.o rfl (aO q is D));have uO:Hid (On w0 (cZ wr r (aO q is D)) q K3 p is Fs D a e l.length (λ_=>False)):=az ((eX.o.1.jg HRR.o (acm rfl) eX.o.2.2.2.2 vN.o hst).less (λn e=>e.elim));clear hst;go_wp2_with (first|(refine mq rfl (agq 6) rfl rfl Nn.o ?_)|(refine ko rfl (agq 4) (agq 32) rfl rfl rfl HRR.o rfl H1.o ?_));exact ac5 (DT ajI.o _ rfl rfl) rfl ⟨q,K3,p,is,Fs,D,a,e,rfl,uO.o⟩
end
section
variable{w0:acL}{K':Nat->Prop}{p:Po}{is:Nat->PI.bF}{Fs:Nat->DF}{D:Nat->RF}{a e i:Nat}{Z:Nat->Prop}
def On.go (h:On w0 w q K p is Fs D a e i Z)(g:bM w0.heap.size w q K w' K' p):On w0 w' q K' p is Fs D a e i Z:=⟨h.run.go g.go,h.below (gF.fA g.go),h.ae,h.pp⟩
end
section
variable{W:acL}{p:Po}
def Mq (h:PQ aA W q K p):∀n,KQ K q n->aA<=n:=λn e=>e.elim (λe=>(h.loose n e).1) (λe=>by
 obtain⟨Y,X,hp,_⟩:=h
 rw[e]
 exact hp.low.2.2)
def VX (h:PQ aA W q K p){n:Nat}(hn:W.heap.size<=n):¬KQ K q n:=λe=>e.elim (λe=>by have:=h.lt _ e;omega) (λe=>by have:=h.JV;omega)
end
attribute [local go_sem] Oper.semAt_some in
def agR (w:acL)(f:Fn)(a b:Array acK):(binOp .eql 50 (.func f a b) .nilFunc).run prog w=.ok (.bool false) w:=by
 have h:∀d:Nat,(Op.equalIn (d+1) 50 (.func f a b) .nilFunc).run prog w=.ok false w:=λd=>by
  simp[Op.equalIn,run_underlying underlying50]
 simp only[binOp];simp[Op.equal,Op.maxDepth,h 9999]
structure ApI (w0:acL)(x D l:Nat)(L0:List Int)(its:List It)(G:Nat->Prop)(W:acL):Prop where
 ex:∃v,aD W x 31 #[v]/\dZ W w0.heap.size v (L0++its.map λx=>(x.2.1:Int))/\(∀n,G n↔n=x\/v.ownBlock=some n)/\∀g,v.ownBlock=some g->g≠D/\g≠l
variable{w0 W:acL}{x D l:Nat}{L0:List Int}{its:List It}{G K':Nat->Prop}
def aoB (ha:w0.heap.size<=x/\x<D/\D<l):agA w0 D l (ApI w0 x D l L0):=by
 refine⟨λhj n hn=>?_,λhj hc hn=>?_⟩;obtain⟨v,h1,h2,h3,h4⟩:=hj.ex;rcases (h3 n).1 hn with e|e;exact⟨aa,aa,aa,_,_,e▸h1⟩;obtain⟨g1,g2,cur,hb⟩:=h2.lt e;exact⟨g2,(h4 n e).1,(h4 n e).2,_,_,hb⟩;obtain⟨v,h1,h2,h3,h4⟩:=hj.ex;exact⟨v,h1.aJ hc (hn _ ((h3 _).2 (ack rfl))),h2.aJ hc (λg e=>hn _ ((h3 g).2 (acm e))),h3,h4⟩
def ahG {v:acK}(h1:aD W x 31 #[v])(h2:dZ W w0.heap.size v L0)(hD:W.heap.size<=D)(hl:D<l):ApI w0 x D l L0 [] (λn=>n=x\/v.ownBlock=some n) W :=
 ⟨v,h1,by rw[List.map_nil,List.append_nil];exact h2,λ_=>Iff.rfl,λg e=>by have:=(h2.lt e).1;omega⟩
def ahX (h:ApI w0 x D l L0 its G W)(ha:w0.heap.size<=x)(hd:D<l)(hl:l<W.heap.size)(hL:L0.length<=9000)(hi:its.length<2000)(u:It) :
  ∃v w5 a5 n5 c5,W.cell? ⟨x,0,none⟩=some v/\eH 31 31 31 v (aco (some ⟨W.heap.size,0,none⟩) 1 1) (W.alloc (ach #[vi u.2.1] 3)) (aco a5 n5 c5) w5/\aD w5 x 31 #[v] /\
   ∃G',ApI w0 x D l L0 (its++[u]) G' (w5.setCell ⟨x,0,none⟩ (aco a5 n5 c5))/\(∀m,G' m->G m\/W.heap.size<=m)/\aP G W (w5.setCell ⟨x,0,none⟩ (aco a5 n5 c5)):=by
 obtain⟨v,h1,h2,h3,h4⟩:=h.ex;have hsz:w0.heap.size<=W.heap.size:=by have:=h1.lt;omega
 obtain⟨v',w5,hrun,jT,hg5,hor⟩:=uT h2 (u.2.1:Int) (by rw[List.length_append,List.length_map];omega) hsz;obtain⟨a5,n5,c5,rfl⟩:=jT.form;have JX:aD w5 x 31 #[v]:=(h1.alloc _).grown hg5 (bU h2 h1 ag);have hbl:acN W.heap.size W (W.alloc (ach #[vi u.2.1] 3)):=ax;refine⟨v,w5,a5,n5,c5,h1.cell 0,hrun,JX,λm=>m=x\/(acK.slice a5 n5 c5).ownBlock=some m,⟨_,JX.bB 0 _,?_,λ_=>Iff.rfl,λg e=>?_⟩,λm e=>?_,?_⟩;rw[List.map_append,<-List.append_assoc];refine jT.aJ (F:=λn=>n=x) (aP.set (F:=λn=>n=x) w5 (p:=⟨x,0,none⟩) rfl _) (λg e e2=>?_)
 obtain⟨_,_,cur,hb⟩:=jT.lt e;rw[e2]at hb;have:=bY hb JX;revert this;decide;rcases hor with e2|e2;exact h4 g (e2.symm.trans e);rw[e2]at e;injection e with e;omega;rcases e with e|e;exact ack ((h3 m).2 (ack e));rcases hor with e2|e2;exact ack ((h3 m).2 (acm (e2.symm.trans e)));rw[e2]at e;injection e with e;exact acm aa;exact((aP.of_below hbl).grown hg5 (λr e=>ack ((h3 r).2 (acm e)))).setCell (p:=⟨x,0,none⟩) (ack ((h3 x).2 (ack rfl))) _
def agS {W2 W1:acL}{alB:List It}{G':Nat->Prop}{ob:Obj}{I I':List It->(Nat->Prop)->acL->Prop}(V:agA w0 D l I)(V':agA w0 D l I')(hI:I its G W1)(h1:aP (λm=>m=l) W W1)(hc:aP G W1 W2)(ho:W1.heap[l]?=some ob)(hA:I' alB G' W2) :
  W2.heap[l]?=some ob/\∀od,aP (λm=>G m\/m=l) W (W2.putObj l od)/\I' alB G' (W2.putObj l od)/\(W2.putObj l od).heap[l]?=some od:=by
 have h2:W2.heap[l]?=some ob:=(hc.block l (eT ho) (λe=>(V.lt hI l e).2.2.1 rfl)).trans ho;refine⟨h2,λod=>?_⟩;have hp:aP (λm=>m=l) W2 (W2.putObj l od):=⟨rfl,rfl,rfl,by simp[acL.putObj],λm hm e=>af4 (λe2=>e e2)⟩;exact⟨((h1.mono λm _ e=>acm e).trans hc (λm _ e=>ack e)).trans hp (λm _ e=>acm e),V'.aJ hA hp (λn e e2=>(V'.lt hA n e).2.2.1 e2),acL.putObj_heap_same (eT h2)⟩
def ahH {b size n:Nat}{t:TypeId}{v:acK}{xs:List acK}(h:w.ownsRow b t size v n xs):∀g,v.ownBlock=some g->∃cur,aD w g t cur:=by
 intro g hg;rcases h.2 with⟨rfl,_⟩|⟨g',cap,cur,rfl,_,hh,_⟩;simp[acK.ownBlock]at hg;simp[acK.ownBlock]at hg;subst hg;exact⟨cur,hh⟩
def gF.own {v:acK}{l:List Nat}{b:Nat}(g:gF w q K w' K')(h:Own w b v l)(hn:∀n,v.ownBlock=some n->¬KQ K q n):Own w' b v l/\∀n,v.ownBlock=some n->¬KQ K' q n :=
 ⟨FD h g.aJ hn,λn e=>by
  obtain⟨cur,hb⟩:=ahH h n e
  exact(g.blk hb (hn n e)).2⟩
structure Mk (w0:acL)(q:Nat)(K:Nat->Prop)(L:List Nat)(w:acL):Prop where
 nd:L.Nodup
 at_:∀D∈L,w0.heap.size<=D/\w.heap[D]?=some (adL (some []))/\¬KQ K q D
def Mk.old {L:List Nat}(h:Mk W q K L w)(hb:acN w.heap.size w w'):Mk W q K L w' :=
 ⟨h.nd,λD hD=>⟨(h.at_ D hD).1,(hb.block D (eT (h.at_ D hD).2.1)).trans (h.at_ D hD).2.1,(h.at_ D hD).2.2⟩⟩
def Mk.go {L:List Nat}(h:Mk W q K L w)(g:gF w q K w' K'):Mk W q K' L w' :=
 ⟨h.nd,λD hD=>by
  obtain⟨h1,h2,h3⟩:=h.at_ D hD
  refine⟨h1,(g.aJ.block D (eT h2) h3).trans h2,λe=>?_⟩
  rcases e with e|e
  rcases g.foot D e with e|e
  exact h3 (ack e)
  have:=eT h2;omega
  exact h3 (acm e)⟩
def marks (Ds:List Nat):List Deferred:=Ds.map λD=>{target:=.collected D,args:=#[]}
def K9 {n:Nat}{fn:Func}{R:Ending->acL->Prop}{tmps:Array acK}{v:acK}:∀(Ds:List Nat) (w:acL),Ds.Nodup->(∀D∈Ds,w.heap[D]?=some (adL (some [])))->(∀W,aP (λn=>n∈Ds) w W->(results fn tmps).run prog W=.ok v W/\R (ab4 v) W) ->
  bodyPostM Fence.wide n prog fn R .ret {tmps,defers:=marks Ds} w
 |[],w,_,_,h=>by
  obtain⟨h1,h2⟩:=h w (aP.refl _ _)
  exact⟨_,h1,h2⟩
 |D::Ds,w,hn,hd,h=>by
  obtain⟨hn1,hn2⟩:=List.nodup_cons.1 hn
  have hc:aP (λn=>n=D) w (w.putObj D (adL none)):=⟨rfl,rfl,rfl,by simp[acL.putObj],λm hm e=>af4 (λe2=>e e2)⟩
  refine⟨ai,ack ⟨_,_,rfl,run_takeDeferred (hd D (List.mem_cons_self ..)),?_⟩⟩
  refine K9 Ds _ hn2 (λE hE=>?_) (λW hW=>h W ?_)
  have h1:=hd E (List.mem_cons_of_mem _ hE)
  exact(af4 (λe=>hn1 (by first|(rw[e];exact hE)|(rw[<-e];exact hE)))).trans h1
  exact(hc.mono (λm _ e=>by rw[e];exact List.mem_cons_self ..)).trans hW (λm _ e=>List.mem_cons_of_mem _ e)
variable{e:Nat}
def eQ.ok.up {b2:Nat}{o:eQ}(h:o.ok aA w)(hb:aA<=b2):o.ok b2 w :=
 ⟨⟨h.row.row,h.row.safe.elim ack (λ⟨b,o,e,h⟩=>acm ⟨b,o,e,h.elim (λh=>ack (adN h hb)) acm⟩)⟩,h.len,h.cap,h.most,h.nums⟩
def fe.up {b2:Nat}{x:Option Addr}{l:List eQ}(h:fe aA w x l)(hb:aA<=b2):fe b2 w x l :=
 ⟨h.at_.imp id (λ⟨b,o,e,h1,h2⟩=>⟨b,o,e,adN h1 hb,h2⟩),λo ho=>(h.good o ho).up hb,h.len⟩
def YZ {o:eQ}{cs:Array acK}(hcs:cs=o.cs.toArray)(ho:o.ok w.heap.size w):fe (w.alloc (ach cs 48)).heap.size (w.alloc (ach cs 48)) (some ⟨w.heap.size,0,none⟩) [o]:=by
 have hb:acN w.heap.size w (w.alloc (ach cs 48)):=ax;refine⟨acm ⟨_,_,rfl,by rw[size_alloc];omega,λi hi j u hu=>?_⟩,λo' ho'=>?_,ai⟩;obtain rfl:i=0:=by simpa using hi
 refine((aD.new w 48 cs).cell (0+0*5+j)).trans ?_;subst hcs;simpa using hu;obtain rfl:=List.mem_singleton.1 ho';exact(ho.old hb).up hb.size
end lw
open ChangeShapes WideShapes ChangeAt RowKit Deep
open ChangeMaps (open_string shut_string)
def own:ownKnob prog.godebug=none:=ah
def laidOut:laidOutB prog=true:=ah
section
variable{H:Type}{enc:TypeId×acK->H}{P:Program}
def uK (hl:laidOutB P=true){W W':acL}(hb:acN W.heap.size W W'){sp:Nat->Bool} :
  ∀{ts:List TypeId} {vs:List acK} {ds:List (DataW H)} {ps:List MemPlace},(∀t∈ts,P.readableRec t=true/\t<P.types.size) ->
   DataW.TrodAll enc P W 0 (λ_=>true) true ts vs ds ps->(∀x∈ps,x.block<W.heap.size)->(∀x∈ps,sp x.block=true)->DataW.TrodAll enc P W' 0 sp true ts vs ds ps
 |[],vs,ds,ps,_,h,_,_=>by
  obtain⟨rfl,rfl,rfl⟩:=trodAll_nil h
  exact trodAll_mk0
 |t::ts,vs,ds,ps,ht,h,hlt,hsp=>by
  obtain⟨v,vs',d,ds',p,q,rfl,rfl,rfl,h0,r⟩:=trodAll_cons h
  exact trodAll_cons_mk (WideElems.Trod_stays hl (ht t ai).1 (ht t ai).2 h0 (λx hx=>hb.same (hlt x (by simp[hx]))) (λx hx=>hsp x (by simp[hx])))
   (uK hl hb (λt' h'=>ht t' (by simp[h'])) r (λx hx=>hlt x (by simp[hx])) (λx hx=>hsp x (by simp[hx])))
def tX {f:Func}{s:ChangeSpec}{W W':acL}{args:Array acK}{ds gs:List (DataW H)}{before:List MemPlace}{tb:TypeId}
  (hl:laidOutB P=true) (ajJ:(f.params.toList.all λt=>P.readableRec t&&decide (t<P.types.size))=true)
  (hW:DataW.Whole enc P f.params.toList s.vars false W args.toList ds gs before) (hv:s.vars=[]) (hb:acN W.heap.size W W')
  (hres:f.resultTypes=#[tb]) (htb:P.underlying tb=some .bool)
  (hfn:s.fn H (ds++gs)={results:=[.lit (.bool true)],args:=ds}) :
  s.post enc P f false true false false W args (.bool true) W':=by
 have hts:∀t∈f.params.toList,P.readableRec t=true/\t<P.types.size:=λt ht=>by
  have:=List.all_eq_true.1 ajJ t ht;simpa using this
 have hlt:∀x∈before,x.block<W.heap.size:=λx hx=>hW.lt x hx
 have hW':=hW;obtain⟨p,q,hA,hV,rfl,hfz,hnd⟩:=hW;rw[hv]at hV;obtain⟨rfl,rfl⟩:=trodVars_none hV;refine⟨_,_,_,[],p,[],hW',?_,?_,?_,hb.frame _,λh=>by cases h⟩;rw[hfn,hres];exact trodAll_mk1 (shut_bool htb true);rw[hfn];exact uK hl hb hts hA (λx hx=>hlt x (by simp[hx])) (λx hx=>by simpa using hlt x (by simp[hx]));rw[hfn,hv];rfl
end
namespace po
open RowKit
attribute [local go_sem] Oper.semAt_some
variable{P:Program}{g:Operand}{ps:Array Tmp}{assign body:Code}{Q:Exit->Act->acL->Prop}{a:Act}{w:acL}{n gf:Nat}{lb:Array acK}
def agx (h1:1<=n)(hg:a.eval g=.func (.func gf) #[] lb)
  (eg:∀args w,(callFunc gf args).run P w=.ok (.enter gf args) w) (R:acL->Prop) (Rx:Code->acL->Prop)
  (hcall:∀fn,ac4 P gf (#[.func (.yield (w.heap.size+1)) #[] #[]]++lb) ((w.alloc (adL (some []))).alloc (.loop (ja fn a ps assign body w.heap.size .ready none))) λe W =>
   (∃v,e=ab4 v)/\W.heap[w.heap.size]?=some (adL (some []))/\((W.heap[w.heap.size+1]?=some (.loop (ja fn a ps assign body w.heap.size .ready none))/\R W) \/
    ∃c,W.heap[w.heap.size+1]?=some (.loop (ja fn a ps assign body w.heap.size .done (some c)))/\Rx c W))
  (hdone:∀W o r,R W->W.heap[w.heap.size]?=some (adL (some []))->W.heap[w.heap.size+1]?=some (.loop r)->Q .normal {a with defers:={target:=.collected w.heap.size,args:=#[]}::a.defers} (W.putObj (w.heap.size+1) o))
  (hstop:∀c W o r,Rx c W->W.heap[w.heap.size]?=some (adL (some []))->W.heap[w.heap.size+1]?=some (.loop r)->c.wpIn Fence.wide n P Q {a with defers:={target:=.collected w.heap.size,args:=#[]}::a.defers} (W.putObj (w.heap.size+1) o)) :
  (Code.rangeFunc g ps assign body).wpIn Fence.wide n P Q a w:=by
 refine wpIn_rangeFunc ?_;intro fn hfn;refine⟨w.heap.size+1,[{target:=.collected w.heap.size,args:=#[]}],(w.alloc (adL (some []))).alloc (.loop (ja fn a ps assign body w.heap.size .ready none)),{target:=.fn (.func gf) lb,args:=#[.func (.yield (w.heap.size+1)) #[] #[]]},
  (w.alloc (adL (some []))).alloc (.loop (ja fn a ps assign body w.heap.size .ready none)),gf,#[.func (.yield (w.heap.size+1)) #[] #[]]++lb,(w.alloc (adL (some []))).alloc (.loop (ja fn a ps assign body w.heap.size .ready none)),?_,?_,?_,?_,λ_=>h1,?_⟩
 exact run_enterLoop_outer _ _ _ _ _
 ·simp only[resolve,hg];simp[go_sem]
 intro f' hf';trivial
 ·simp[invoke,go_sem,eg]
 refine(callsIn_wide.2 (hcall fn)).mono ?_;rintro e W ⟨⟨v,rfl⟩,h3,⟨h2,h4⟩|⟨c,h2,h4⟩⟩;exact⟨none,_,run_endLoop h2 (by unfold ja;simp),hdone W _ _ h4 h3 h2⟩;exact⟨some c,_,run_endLoop h2 (by unfold ja;simp),hstop c W _ _ h4 h3 h2⟩
def ag6 {l m:Nat}{rl:Loop}{W:acL}(hl:W.heap[l]?=some (.loop rl))(hr:rl.state=.ready)(hp:rl.pending=none){args:Array acK}(hs:args.size=rl.params.size){R:acL->Prop}{Rx:Code->acL->Prop}
  (hbody:rl.assign.wpIn (Fence.wide.inRound l) m P (Exit.then (λa₁ w₁=>w₁.heap[l]?=some (.loop rl)/\rl.body.wpIn (Fence.wide.inRound l) m P (λex _ W3=>W3.heap[l]?=some (.loop {rl with state:=.busy}) /\
   ((ex=.normal/\R (W3.putObj l (.loop rl)))\/∃id,ex=.exit id/\Rx (.exit id) (W3.putObj l (.loop {rl with state:=.done,pending:=some (.exit id)})))) a₁ (w₁.putObj l (.loop {rl with state:=.busy}))) (λ_ _ _=>False)) {tmps:=(rl.params.zip args).foldl (λtmps (t,a)=>tmps.setIfInBounds t a) rl.tmps,defers:=[]} W) :
  YieldAt Fence.wide m P l args W λe W'=>(e=ab4 (acg true)/\R W')\/(e=ab4 (acg false)/\∃c,Rx c W'):=by
 refine⟨rl.fn,_,rl.assign,rl.body,run_yield hl hs,roundIn_of_wpIn trivial (wpIn_mono hbody ?_)⟩;rintro e a1 w1 h;cases e with
 |normal =>
  obtain⟨h1,h2⟩:=h;refine⟨_,run_beginRound h1 hr,wpIn_mono h2 ?_⟩;rintro e2 a2 W3 ⟨h3,⟨rfl,h4⟩|⟨id,rfl,h4⟩⟩;have h5:=run_endRound (P:=P) none h3;refine⟨_,_,h5,ack ⟨rfl,?_⟩⟩;have:({({rl with state:=.busy}:Loop) with state:=if (none:Option Code).isNone then .ready else .done,pending:=none}:Loop)=rl:=by
   obtain⟨a,b,c,d,e,f,g,h⟩:=rl;cases hr;cases hp;rfl
  rw[this];exact h4;have h5:=run_endRound (P:=P) (some (.exit id)) h3;exact⟨_,_,h5,acm ⟨rfl,_,h4⟩⟩
 |_=>exact h
def agy (h1:1<=n)(hg:a.eval g=.func (.func gf) #[] lb)
  (eg:∀args w,(callFunc gf args).run P w=.ok (.enter gf args) w) (id:Nat) (hid:∀a w,Q .normal a w->Q (.exit id) a w) (R:acL->Prop)
  (hcall:∀fn,ac4 P gf (#[.func (.yield (w.heap.size+1)) #[] #[]]++lb) ((w.alloc (adL (some []))).alloc (.loop (ja fn a ps assign body w.heap.size .ready none))) λe W =>
   (∃v,e=ab4 v)/\W.heap[w.heap.size]?=some (adL (some []))/\R W/\(W.heap[w.heap.size+1]?=some (.loop (ja fn a ps assign body w.heap.size .ready none))\/W.heap[w.heap.size+1]?=some (.loop (ja fn a ps assign body w.heap.size .done (some (.exit id))))))
  (hdone:∀W o r,R W->W.heap[w.heap.size]?=some (adL (some []))->W.heap[w.heap.size+1]?=some (.loop r)->Q .normal {a with defers:={target:=.collected w.heap.size,args:=#[]}::a.defers} (W.putObj (w.heap.size+1) o)) :
  (Code.rangeFunc g ps assign body).wpIn Fence.wide n P Q a w :=
 agx h1 hg eg R (λc W=>c=.exit id/\R W) (λfn=>(hcall fn).mono λ_ _ h=>⟨h.1,h.2.1,h.2.2.2.imp (λe=>⟨e,h.2.2.1⟩) (λe=>⟨_,e,rfl,h.2.2.1⟩)⟩) hdone
  (λc W o r h h2 h3=>by
   obtain⟨rfl,h⟩:=h
   exact wpIn_exit (hid _ _ (hdone W o r h h2 h3)))
end po
end Go.Proofs.YtllmbcigmimgoaaGreat
