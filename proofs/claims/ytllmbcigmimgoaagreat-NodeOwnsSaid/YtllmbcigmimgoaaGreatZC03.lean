/-
  Lemmas for a law's proof, put together from several texts. No conditions of their own.
-/
import Derived.Test.YtllmbcigmimgoaaGreatZC02
import Derived.Deep.CutBlock
import Derived.WalkMore
import Derived.Deep.LoopGhost
import Derived.Test.YtllmbcigmimgoaaGreatZC01
import Derived.RangeFuncNested
import Derived.RangeFuncBound
import Derived.RangeFuncCalls
import Derived.RangeFuncLeaves
import Derived.OwnWalkIn
import Derived.TacticsInMore
import Derived.LoopNIn
import Derived.LoopIn
set_option maxRecDepth 100000
set_option maxHeartbeats 20000000
set_option linter.all false
namespace Go.Proofs.YtllmbcigmimgoaaGreat
open _root_.Go.Proofs.Tryz
open _root_.Bool renaming and_eq_true->ac8
open _root_.Go renaming World->acL,Value->acK,Calls->ac4,bodyPost_ret->ac5,wpQuiet_nil->adE
open _root_.Go.Ending renaming returned->ab4
open _root_.Go.Exit renaming noGoto_ret->acY
open _root_.Go.Instr renaming lookup->abw
open _root_.Go.IntKind renaming i64->adk
open _root_.Go.IntWalk renaming i64_in->adl
open _root_.Go.Obj renaming cells->ach
open _root_.Go.RowKit renaming Below->acN
open _root_.Go.Value renaming tuple->adg,pointer->adj,slice->aco,bool->acg,agg->adA
open _root_.Go.World renaming cell?_setCell_other->ac6
open _root_.Int renaming toNat_natCast->acW
open _root_.List renaming length_replicate->abP,mem_cons_of_mem->adw,getD_eq_getElem?_getD->aah
open _root_.Nat renaming le_trans->abX
open _root_.Or renaming inr->acm,inl->ack
namespace mgr
open RowKit
def oz (aA:Nat)(w:acL)(k:Nat)(M:dA)(r:Int×Option Mg)(e:Ending)(w':acL):Prop :=
 acN w.heap.size w w'/\match r with
 |(n,none)=>e=ab4 (adg #[(adj none:acK),vi n])
 |(n,some g)=>∃m G,e=ab4 (adg #[ptr m,vi n])/\Held aA w' m G M/\G.k=k/\G.view=g/\∀n,G.foot m n->w.heap.size<=n
def oz.no {aA:Nat}{w w':acL}{k:Nat}{M:dA}{r:Int×Option Mg}{n:Int}(hr:r=(n,none))(hb:acN w.heap.size w w'):oz aA w k M r (ab4 (adg #[(adj none:acK),vi n])) w':=by
 subst hr;exact⟨hb,rfl⟩
variable{aA:Nat}{w:acL}{k:Nat}{M:dA}
def AQ (h:aT aA w k M)(hok:M.view.ok)(hbase:aA<=w.heap.size)(fa:Option Addr)(fresh:List Bool)(fc:Nat)(hf:AJ w fa fresh)(la:Option Addr)(live:List Int)(lc:Nat)(hl:jC w la live)(aC bad:Int) :
  ac4 prog 88 #[ptr k,aco fa fresh.length fc,aco la live.length lc,vi aC,vi bad] w (oz aA w k M (jX M.view fresh live aC bad)):=by
 have dN:Hid (jX M.view fresh live aC bad=if M.down then (4,none)
  else if fresh.length≠M.B\/live.length≠M.B\/aC<0\/bad<0 then (1,none)
  else if (List.range M.B).all (λk=> !lu M.P (fresh.getD k false) (live.getD k 0)) then (0,some ⟨firstL M.view fresh live M.B,-1,aC,bad,uq (firstL M.view fresh live M.B)⟩)
  else (1,none)):=az rfl
 have HU:=az (ET h);have HC:=az h;have vM:=az hok;have HF:=az hf;have HL:=az hl;have hSz:=EY hok;have lK:=az (pE hok);have hB:Hid (8<=M.B/\M.B<=128/\M.P<=32):=az (by
  have:NP.bH M.B M.P M.S=true:=hok.right
  unfold NP.bH at this
  simp only[ac8,decide_eq_true_eq]at this
  omega)
 clear h hok hf hl hSz;by_cases hd:M.down=true
 ·rw[hd]at HU;rw[hd,if_pos rfl]at dN;go_in;go_wp2_with fail;refine HU.o.mono ?_;rintro e w' ⟨rfl,rfl⟩;go_wp2;go_ret2;exact oz.no dN.o ak
 have hd':M.down=false:=by simpa using hd
 rw[hd',if_neg ag]at dN;rw[hd']at HU;clear hd hd';by_cases hbad:fresh.length≠M.B\/live.length≠M.B\/aC<0\/bad<0
 ·rw[if_pos hbad]at dN;have hp:((fresh.length:Int) != (M.B:Int))=true\/(((fresh.length:Int) != (M.B:Int))=false/\((live.length:Int) != (M.B:Int))=true)\/(((fresh.length:Int) != (M.B:Int))=false/\((live.length:Int) != (M.B:Int))=false/\aC<0)\/(((fresh.length:Int) != (M.B:Int))=false/\((live.length:Int) != (M.B:Int))=false/\¬aC<0/\bad<0):=by
   by_cases h1:fresh.length=M.B;have e1:((fresh.length:Int) != (M.B:Int))=false:=by rw[h1];simp
   by_cases h2:live.length=M.B;have e2:((live.length:Int) != (M.B:Int))=false:=by rw[h2];simp
   by_cases h3:aC<0;exact acm (acm (ack ⟨e1,e2,h3⟩));exact acm (acm (acm ⟨e1,e2,h3,aa⟩));exact acm (ack ⟨e1,by simp only[bne_iff_ne,ne_eq];omega⟩);exact ack (by simp only[bne_iff_ne,ne_eq];omega)
  have AR:=az hp;clear hbad hp;go_in;go_wp2_with fail;refine HU.o.mono ?_;rintro e w' ⟨rfl,rfl⟩;go_wp2_with fail;refine(iZ HC.o).mono ?_;rintro e w1 ⟨rfl,hb1⟩;have HB1:=az hb1;clear hb1;go_upto_region 6 with fail;have G0:=az (aD.new w1 103 #[vi M.B,vi M.P,vi M.S]);have HB2:=az (HB1.o.alloc HB1.o.size (ach #[vi M.B,vi M.P,vi M.S] 103));generalize w1.alloc (ach #[vi M.B,vi M.P,vi M.S] 103)=w2 at*;generalize w1.heap.size=gb at*;have c0:w2.cell? ⟨gb,0,none⟩=some (vi M.B):=G0.o.cell 0;rcases AR.o with e1|⟨e1,e2⟩|⟨e1,e2,e3⟩|⟨e1,e2,e3,e4⟩;all_goals
   go_wp2;go_ret2;exact oz.no dN.o HB2.o
 rw[if_neg hbad]at dN;have h1:fresh.length=M.B:=aa;have h2:live.length=M.B:=aa;have h3:¬aC<0:=aa;have h4:¬bad<0:=aa;have H1:=az h1;have H2:=az h2;have q1:((fresh.length:Int) != (M.B:Int))=false:=by rw[h1];simp
 have q2:((live.length:Int) != (M.B:Int))=false:=by rw[h2];simp
 clear hbad h1 h2;go_in;go_wp2_with fail;refine HU.o.mono ?_;rintro e w' ⟨rfl,rfl⟩;go_wp2_with fail;refine(iZ HC.o).mono ?_;rintro e w1 ⟨rfl,hb1⟩;have HB1:=az hb1;clear hb1;go_upto_region 6 with fail;have G0:=az (aD.new w1 103 #[vi M.B,vi M.P,vi M.S]);have HB2:=az (HB1.o.alloc HB1.o.size (ach #[vi M.B,vi M.P,vi M.S] 103));generalize w1.alloc (ach #[vi M.B,vi M.P,vi M.S] 103)=w2 at*;generalize w1.heap.size=gb at*;have c0:w2.cell? ⟨gb,0,none⟩=some (vi M.B):=G0.o.cell 0;go_upto_region 9 with fail;have G1:=az (G0.o.alloc (ach #[ptr k,aco none 0 0,vi (-1),vi aC,vi bad,acg false] 191))
 have ST:Hid (OpenSt w' k w2.heap.size aC bad (firstL M.view fresh live 0) (aco none 0 0) (w2.alloc (ach #[ptr k,aco none 0 0,vi (-1),vi aC,vi bad,acg false] 191))):=az
  ⟨HB2.o.alloc HB2.o.size _,aD.new _ _ _,acL.ownsRow_nil _ _ _ _,HB2.o.size⟩
 clear c0 q1 q2 h3 h4 G0 HB1 HB2;generalize w2.alloc (ach #[ptr k,aco none 0 0,vi (-1),vi aC,vi bad,acg false] 191)=w3 at*;generalize w2.heap.size=m at*;go_wp2_with fail;go_loopw [53] (λi wr=>∃(n:Nat) (v:acK),n<=live.length/\i=vi n/\Hid (OpenSt w' k m aC bad (firstL M.view fresh live n) v wr)/\Hid ((List.range n).all (λk=> !lu M.P (fresh.getD k false) (live.getD k 0))=true)/\Hid (aD wr gb 103 #[vi M.B,vi M.P,vi M.S])) (λi _=>live.length-(intOf i).toNat)
 case atStart=>exact⟨0,_,Nat.zero_le _,rfl,ST,az rfl,G1⟩
 case round =>
  clear ST G1;obtain⟨n,v,hn1,rfl,st,hall,hg⟩:=hrel;by_cases hlt:n<live.length
  ·obtain⟨lb,lo,rfl,hlc⟩:=(HL.o.below st.o.below).lookup hlt;obtain⟨fb,fo,rfl,hfc⟩:=(HF.o.old st.o.below).lookup (i:=n) (by rw[H1.o,<-H2.o];exact hlt);have hgp:wr.cell? ⟨gb,1,none⟩=some (vi M.P):=hg.o.cell 1;have q3:(0:Int)<=(n:Int):=aa;have q4:(n:Int)<(fresh.length:Int):=by rw[H1.o,<-H2.o];omega
   have QS:Hid (lu M.P (fresh.getD n false) (live.getD n 0)=true->jX M.view fresh live aC bad=(1,none)):=az (λhw=>by
    rw[dN.o,if_neg]
    have:=Di (f:=λk=> !lu M.P (fresh.getD k false) (live.getD k 0)) (n:=n) (B:=M.B) (by rw[<-H2.o];exact hlt) (by simp only[hw];rfl)
    rw[this];decide)
   have iH:Hid (lu M.P (fresh.getD n false) (live.getD n 0)=false->(List.range (n+1)).all (λk=> !lu M.P (fresh.getD k false) (live.getD k 0))=true):=az (λhw=>by
    rw[AO,hall.o];simp only[hw];rfl)
   have QR:=az (firstL_succ M.view fresh live n);have MJ:Hid (lu M.P (fresh.getD n false) (live.getD n 0)=(decide ((live.getD n 0)<0)||decide ((M.P:Int)<(live.getD n 0))||((fresh.getD n false)&&decide (0<(live.getD n 0))))):=az rfl;generalize live.getD n 0=x at*;generalize fresh.getD n false=f at*;generalize firstL M.view fresh live n=l at*
   by_cases hw:lu M.P f x=true
   ·have HQ:=az (QS.o hw);rw[MJ.o]at hw;have hp:x<0\/(¬x<0/\(M.P:Int)<x)\/(¬x<0/\¬(M.P:Int)<x/\f=true/\0<x):=by
     simp only[Bool.or_eq_true,ac8,decide_eq_true_eq]at hw;rcases hw with (hw|hw)|hw;exact ack hw;by_cases e:x<0;exact ack e;exact acm (ack ⟨e,hw⟩);by_cases e:x<0;exact ack e;by_cases e2:(M.P:Int)<x;exact acm (ack ⟨e,e2⟩);exact acm (acm ⟨e,e2,hw⟩)
    have HB:=az st.o.below;clear hw QS iH QR MJ hall hg st;rcases hp with e|⟨e,e2⟩|⟨e,e2,rfl,e4⟩;all_goals
     go_wp2;go_ret2;exact oz.no HQ.o HB.o
   have hw':lu M.P f x=false:=by simpa using hw
   have zq:=az (iH.o hw');rw[MJ.o]at hw';simp only[Bool.or_eq_false_iff,Bool.and_eq_false_iff,decide_eq_false_iff_not]at hw';obtain⟨⟨e1,e2⟩,e3⟩:=hw';have E3:=az e3;clear hw QS iH MJ hall e3;go_upto_region 12 with fail;go_cut [75] from 54 to 107 (λv wx=>v=acg false/\wx=wr)
   case first =>
    rcases E3.o with rfl|e3
    ·go_wp2;go_meet;exact⟨rfl,rfl⟩
    have e4:decide (0<x)=false:=decide_eq_false e3;cases f
    ·go_wp2;go_meet;exact⟨rfl,rfl⟩
    go_wp2;go_meet;exact⟨rfl,rfl⟩
   case rest =>
   obtain⟨rfl,rfl⟩:=hcut;have yx:=az (HC.o.old st.o.below);have HWV:Hid (vI M n=NP.bC M.view n):=az (uN M vM.o n);have HBV:Hid (Kc M n=NP.qO M.view n):=az (AL M n lK.o);have HWE:=az (λw' (hc:aT aA w' k M)=>Aw hc n);have Ii:=az (λw' (hc:aT aA w' k M)=>EX hc n);rw[HWV.o]at HWE;rw[HBV.o]at Ii;have WI:Hid (firstB M.view f x n=if NP.qO M.view n then ⟨4,0,NP.bC M.view n,0⟩ else if f then ⟨0,0,NP.bC M.view n,0⟩ else if 0<x then ⟨2,x,NP.bC M.view n,0⟩ else ⟨3,0,NP.bC M.view n,0⟩):=az rfl;clear HWV HBV
   generalize NP.bC M.view n=wv at*;generalize NP.qO M.view n=bv at*;go_wp2_with fail;refine(HWE.o _ yx.o).mono ?_;rintro e wx ⟨rfl,rfl⟩;go_upto_block 3 with fail;have A0:=D7 wx #[vi 3,vi 0,vi wv,vi 0] 193;have F3:=az (aD.new wx 193 #[vi 3,vi 0,vi wv,vi 0]);have S3:=az (st.o.old A0);have G3:=az (hg.o.old A0);have Ij:=az (yx.o.old A0);have ahd:=cell_below hfc A0;have CU:Hid (w'.heap.size<=wx.heap.size/\v.ownBlock≠some wx.heap.size/\wx.heap.size≠m):=az ⟨st.o.below.size,(λe=>by
    obtain⟨_,cur,hbk⟩:=st.o.own.row _ e
    have:=hbk.lt
    omega),(λe=>by have:=st.o.mgr.lt;omega)⟩
   have Ik:Hid (wx.heap.size≠gb):=az (λe=>by have:=hg.o.lt;omega);clear st hg hgp hlc hfc yx A0;generalize wx.alloc (ach #[vi 3,vi 0,vi wv,vi 0] 193)=w4 at*;generalize wx.heap.size=gx at*;have b0:w4.cell? ⟨gx,0,none⟩=some (vi 3):=F3.o.cell 0;have b1:w4.cell? ⟨gx,1,none⟩=some (vi 0):=F3.o.cell 1;have y0:=F3.o.frozen 0;have y1:=F3.o.frozen 1;go_cut [14] from 54 to 107 (λv14 wy=>v14=vi n/\Hid (OpenSt w' k m aC bad l v wy)/\Hid (aD wy gb 103 #[vi M.B,vi M.P,vi M.S])/\Hid (aD wy gx 193 #[vi (firstB M.view f x n).s,vi (firstB M.view f x n).l,vi (firstB M.view f x n).r,vi (firstB M.view f x n).n]))
   case first =>
    go_wp2_with fail;refine(Ii.o _ Ij.o).mono ?_;rintro e wy ⟨rfl,rfl⟩;cases bv
    ·cases f
     ·by_cases hx:0<x
      ·have hxd:decide (0<x)=true:=decide_eq_true hx;have HV:Hid (firstB M.view false x n=⟨2,x,wv,0⟩):=az (by rw[WI.o];simp[hx]);clear hx;go_wp2;go_meet;refine⟨rfl,az ((S3.o.var CU.o.1 CU.o.2.1 CU.o.2.2 _).var CU.o.1 CU.o.2.1 CU.o.2.2 _),az ((G3.o.far (p:=⟨gx,0,none⟩) Ik.o.symm _).far (p:=⟨gx,1,none⟩) Ik.o.symm _),az ?_⟩;rw[HV.o];exact(F3.o.bB 0 _).bB 1 _
      have hxd:decide (0<x)=false:=decide_eq_false hx;have HV:Hid (firstB M.view false x n=⟨3,0,wv,0⟩):=az (by rw[WI.o];simp[hx]);clear hx;go_wp2;go_meet;refine⟨rfl,S3,G3,az ?_⟩;rw[HV.o];exact F3.o
     have HV:Hid (firstB M.view true x n=⟨0,0,wv,0⟩):=az (by rw[WI.o];rfl);go_wp2;go_meet;refine⟨rfl,az (S3.o.var CU.o.1 CU.o.2.1 CU.o.2.2 _),az (G3.o.far (p:=⟨gx,0,none⟩) Ik.o.symm _),az ?_⟩;rw[HV.o];exact F3.o.bB 0 _
    have HV:Hid (firstB M.view f x n=⟨4,0,wv,0⟩):=az (by rw[WI.o];rfl);go_wp2;go_meet;refine⟨rfl,az (S3.o.var CU.o.1 CU.o.2.1 CU.o.2.2 _),az (G3.o.far (p:=⟨gx,0,none⟩) Ik.o.symm _),az ?_⟩;rw[HV.o];exact F3.o.bB 0 _
   case rest =>
   obtain⟨rfl,S4,G4,F4⟩:=hcut;clear b0 b1 y0 y1 S3 G3 F3 Ij ahd WI HWE Ii E3;generalize firstB M.view f x n=z at*
   obtain⟨zs,zl,zr,zn⟩:=z;dsimp only at F4;have k0:wc.cell? ⟨gx,0,none⟩=some (vi zs):=F4.o.cell 0;have k1:wc.cell? ⟨gx,1,none⟩=some (vi zl):=F4.o.cell 1;have k2:wc.cell? ⟨gx,2,none⟩=some (vi zr):=F4.o.cell 2;have k3:wc.cell? ⟨gx,3,none⟩=some (vi zn):=F4.o.cell 3;have hgl:gx<wc.heap.size:=F4.o.lt;have Df:m<wc.heap.size:=S4.o.mgr.lt;obtain⟨v5,w5,hrun,jT,hg5⟩:=Fg (S4.o.old au).own ⟨zs,zl,zr,zn⟩ (by
    have h1:l.length=n:=by
     have:=congrArg List.length QR.o
     rw[firstL_length,List.length_append]at this
     simpa using this.symm
    have h2:=hB.o
    have h3:=H2.o
    omega) S4.o.below.size
   have RA:eH 189 189 189 v (aco (some ⟨wc.heap.size,0,none⟩) 1 1) (wc.alloc (ach #[vi zs,vi zl,vi zr,vi zn] 193)).drew v5 w5:=hrun;have S5:=az ((S4.o.old au).next (x:=⟨zs,zl,zr,zn⟩) jT hg5);obtain⟨av,cv,hv⟩:=S4.o.own.form;have c1:wc.cell? ⟨m,1,none⟩=some v:=S4.o.mgr.cell 1;have JR:aD w5 m 191 _:=((S4.o.mgr.drew).alloc (ach #[vi zs,vi zl,vi zr,vi zn] 193)).grown hg5 (bU ((S4.o.old au).own.old (ak.alloc aj (ach #[vi zs,vi zl,vi zr,vi zn] 193))) ((S4.o.mgr.drew).alloc _) ag);have d1:w5.cell? ⟨m,1,none⟩=some v:=JR.cell 1
   have y1:=JR.frozen 1;have G5:Hid (aD (w5.setCell ⟨m,1,none⟩ v5) gb 103 #[vi M.B,vi M.P,vi M.S]):=az (by
    have h1:=((G4.o.drew).alloc (ach #[vi zs,vi zl,vi zr,vi zn] 193)).grown hg5 (bU ((S4.o.old au).own.old (ak.alloc aj (ach #[vi zs,vi zl,vi zr,vi zn] 193))) ((G4.o.drew).alloc _) ag)
    refine h1.far (p:=⟨m,1,none⟩) (λe=>?_) _
    subst e
    unfold aD at h1 JR
    rw[JR]at h1
    injection h1 with h1
    injection h1 with _ h1
    exact absurd h1 ag)
   obtain⟨av5,cv5,adp⟩:=jT.form;have hv5:v5=aco av5 (l.length+1) cv5:=by rw[adp];simp
   subst hv hv5;have aj1:live.length<=128:=by have h2:=hB.o;have h3:=H2.o;omega
   clear adp hrun jT hg5 JR F4 S4 G4;go_upto_region 21 with fail;go_region_law (refine jH (.tmp 101) (.tmp 103) RA (by rfl) (by rfl) (by go_simp) (by go_simp) ?_);all_goals
    go_wp2;go_roundw
    case rel=>exact⟨n+1,_,aa,by go_num,az (by rw[QR.o];exact S5.o),zq,G5⟩
    case measure=>simp[intOf];omega
  obtain rfl:n=live.length:=aa;have HE:Hid (jX M.view fresh live aC bad=(0,some ⟨firstL M.view fresh live live.length,-1,aC,bad,uq (firstL M.view fresh live live.length)⟩)):=az (by
   have h0:=hall.o
   rw[H2.o]at h0 ⊢
   rw[dN.o,if_pos h0])
  have je:Hid ((firstL M.view fresh live live.length).length=live.length):=az (firstL_length _ _ _ _);have vJ:Hid (live.length=M.B/\8<=M.B/\M.B<=128):=az ⟨H2.o,hB.o.1,hB.o.2.1⟩;have HEV:Hid (uq (firstL M.view fresh live live.length)=decide (4<wrap64 (gcs.l9 (firstL M.view fresh live live.length)-gcs.eP (firstL M.view fresh live live.length)))):=az rfl;clear hall hg dN HL HF hn1 hlt;generalize firstL M.view fresh live live.length=l at*
  obtain⟨gl,cl,rfl,harr,hgl⟩:=kY.Rm st.o.own (by rw[je.o];have:=vJ.o;omega);have HRW:Hid (∀w'',acN wr.heap.size wr w''->gcs.Row w'' (aco (some ⟨gl,0,none⟩) l.length cl) l):=az (λw'' hb=>by
   have ha:=harr.old hb
   obtain⟨cur,_,g1,g2,_⟩:=ha.blk
   refine⟨by unfold maxLen at g2;omega,_,_,rfl,acm ⟨gl,0,rfl,λi hi=>?_⟩⟩
   have hc:∀j,j<4->w''.cell? ⟨gl,i*4+j,none⟩=(gQ (l.getD i default))[j]?:=λj hj=>by
    rw[ha.cell aa,flat_get gT default _ _ _ hi hj]
   rw[Nat.zero_add]
   exact⟨hc 0 ag,hc 1 ag,hc 2 ag,hc 3 ag⟩)
  have HG:Hid (∀w'',acN wr.heap.size wr w''->ac4 prog 124 #[aco (some ⟨gl,0,none⟩) l.length cl] w'' λe w3=>e=ab4 (vi (gcs.l9 l))/\acN w''.heap.size w'' w3):=az (λw'' hb=>gcs.ES _ _ _ (HRW.o _ hb));have wU:Hid (∀w'',acN wr.heap.size wr w''->ac4 prog 125 #[aco (some ⟨gl,0,none⟩) l.length cl] w'' λe w3=>e=ab4 (vi (gcs.eP l))/\acN w''.heap.size w'' w3):=az (λw'' hb=>gcs.DX _ _ _ (HRW.o _ hb));have adq:=az harr;have HGL:=az hgl;clear harr hgl HRW;have c1:wr.cell? ⟨m,1,none⟩=some (aco (some ⟨gl,0,none⟩) l.length cl):=st.o.mgr.cell 1
  have C1:=az (show wr.drew.cell? ⟨m,1,none⟩=some (aco (some ⟨gl,0,none⟩) l.length cl) from c1);have Om:Hid ((⟨m,5,none⟩:Addr)≠⟨m,1,none⟩):=az (λe=>by injection e with _ e;cases e);have BD:=az (acN.drew (acN.refl wr.heap.size wr));generalize gcs.l9 l=xg at*;generalize gcs.eP l=xl at*;have HD5:Hid (∀w'',acN wr.heap.size wr w''->w''.cell? ⟨m,5,none⟩=some (acg false)/\w''.frozen? ⟨m,5,none⟩=false):=az (λw'' hb=>⟨(st.o.mgr.old hb).cell 5,(st.o.mgr.old hb).frozen 5⟩);clear c1;go_upto_region 23 with fail;go_region_held3 (λw'=>w'.cell? ⟨m,1,none⟩=some (aco (some ⟨gl,0,none⟩) l.length cl))
   (first
    |exact C1.o
    |exact cell_below C1.o WJ
    |exact cell_below C1.o R9
    |exact(ac6 _ _ _ _ Om.o).trans (cell_below C1.o WJ))
   (first
    |(go_at_call 124;refine(HG.o _ BD.o).mono ?_;rintro e wa ⟨rfl,R9⟩;have BA:=az (BD.o.trans (R9.mono aj)))
    |(go_at_call 125;refine(wU.o _ BA.o).mono ?_;rintro e wb ⟨rfl,hbe⟩;have WJ:=R9.trans (hbe.mono R9.size);have BB:=az (BD.o.trans (WJ.mono aj));have x5:=(HD5.o _ BB.o).1;have y5:=(HD5.o _ BB.o).2))
  have HQ:Hid (decide (4<adk.wrap (xg-xl))=uq l):=az (by rw[HEV.o,IntWalk.i64_left]);rw[HQ.o];have Y3:Hid (acN w'.heap.size w' (wb.setCell ⟨m,5,none⟩ (acg (uq l)))):=az ((st.o.below.trans (BB.o.mono st.o.below.size)).setCell (p:=⟨m,5,none⟩) st.o.low _);have HK:Hid (Held aA (wb.setCell ⟨m,5,none⟩ (acg (uq l))) m ⟨k,l,gl,cl,-1,aC,bad,uq l⟩ M):=az (by
   have hne:gl≠m:=λe=>adq.o.dM st.o.mgr ag e
   refine⟨⟨(st.o.mgr.old BB.o).bB 5 _,(adq.o.old BB.o).far (p:=⟨m,5,none⟩) hne _,?_⟩,HC.o.old Y3.o⟩
   intro n hn
   rcases hn with rfl|rfl
   exact abX hbase st.o.low
   exact abX hbase HGL.o)
  have HOW:Hid (∀n,iL.foot ⟨k,l,gl,cl,-1,aC,bad,uq l⟩ m n->w'.heap.size<=n):=az (by
   intro n hn
   rcases hn with rfl|rfl
   exact st.o.low
   exact HGL.o)
  clear R9 hbe WJ x5 y5;generalize wb.setCell ⟨m,5,none⟩ (acg (uq l))=w9 at*;generalize jX M.view fresh live aC bad=R at*;obtain rfl:=HE.o;go_wp2;go_ret2;exact⟨Y3.o,m,_,rfl,HK.o,rfl,rfl,HOW.o⟩
def zeroTo (l:List gcs.aD):Nat->List gcs.aD
 |0=>l
 |n+1=>(zeroTo l n).set n {(zeroTo l n).getD n default with r:=0}
def AU (G:iL)(P:Nat):Int×Int:=gcs.vG (if G.even then zeroTo G.l G.l.length else G.l) P (decide ((P:Int)<=bT G P))
def nO (l:List gcs.aD):∀n,(zeroTo l n).length=l.length
 |0=>rfl
 |n+1=>by unfold zeroTo;rw[List.length_set,nO l n]
variable{m:Nat}{G:iL}
def Ki (l:List gcs.aD):∀u∈l.flatMap gQ,u.oneCell'=true:=by
 intro u hu;obtain⟨x,_,hx⟩:=List.mem_flatMap.1 hu;simp[gQ]at hx;rcases hx with rfl|rfl|rfl|rfl<;>rfl
variable{l:List gcs.aD}
def WK {g c:Nat}(h:kY w 193 4 g l.length c (l.flatMap gQ)):gcs.Row w (aco (some ⟨g,0,none⟩) l.length c) l:=by
 obtain⟨cur,_,g1,g2,_⟩:=h.blk;refine⟨by unfold maxLen at g2;omega,_,_,rfl,acm ⟨g,0,rfl,λi hi=>?_⟩⟩;have hc:∀j,j<4->w.cell? ⟨g,i*4+j,none⟩=(gQ (l.getD i default))[j]?:=λj hj=>by
  rw[h.cell aa,flat_get gT default _ _ _ hi hj]
 rw[Nat.zero_add];exact⟨hc 0 ag,hc 1 ag,hc 2 ag,hc 3 ag⟩
structure Oz (w1:acL)(g c:Nat)(l:List gcs.aD)(wr:acL):Prop where
 below:acN w1.heap.size w1 wr
 arr:kY wr 193 4 g l.length c (l.flatMap gQ)
 low:w1.heap.size<=g
def Oz.zero {w1 wr:acL}{g c:Nat}(h:Oz w1 g c l wr){n:Nat}(hn:n<l.length):Oz w1 g c (l.set n {l.getD n default with r:=0}) (wr.setCell ⟨g,n*4+2,none⟩ (vi 0)):=by
 refine⟨h.below.setCell (p:=⟨g,n*4+2,none⟩) h.low _,?_,h.low⟩;rw[List.length_set,<-flat_set gT default l n 2 {l.getD n default with r:=0} (vi 0) hn ag rfl];exact h.arr.set _ _
def Aq (h:Held aA w m G M)(hf:G.fit M.P)(hl0:0<G.l.length):ac4 prog 171 #[ptr m] w λe w'=>e=ab4 (gcs.xu (AU G M.P))/\acN w.heap.size w w':=by
 have dN:Hid (AU G M.P=gcs.vG (if G.even then zeroTo G.l G.l.length else G.l) M.P (decide ((M.P:Int)<=bT G M.P))):=az rfl;have H:=az h;have HF:=az hf;have HZL:=az (nO G.l);have hlen:G.l.length<=128:=hf.1;have B0:=az (qX w (ach #[vi 0,vi 0] 229));have R0:=az (aD.new w 229 #[vi 0,vi 0]);clear h hf;go_in;go_upto_region 1 with fail;generalize w.alloc (ach #[vi 0,vi 0] 229)=w1 at*;generalize hrb:w.heap.size=rb at*;have vN:=az hrb;clear hrb;have H1:Hid (Held aA w1 m G M):=az (H.o.old (by rw[vN.o];exact B0.o));have c1:w1.cell? ⟨m,1,none⟩=some (aco (some ⟨G.gl,0,none⟩) G.l.length G.cl):=H1.o.cells.2.1
 go_wp2_with fail;have hown:=H1.o.mgr.row;refine(Kg (some ⟨G.gl,0,none⟩) G.l.length G.cl (G.l.flatMap gQ) _ (flat_length gT G.l) (λad had j u hu=>by
   injection had with had
   subst had
   rw[add_plain,Nat.zero_add,hown.cell (by rw[<-flat_length gT G.l];exact(List.getElem?_eq_some_iff.1 hu).1)]
   exact hu) (Ki _) ai aa).mono ?_
 rintro e w2 ⟨v2,rfl,ho2,hb2⟩;obtain⟨g,c,rfl,harr,hg⟩:=kY.Rm ho2 hl0;have HEL:Hid ((if G.even then zeroTo G.l 0 else G.l)=G.l):=az (by cases G.even<;>rfl);have ST:Hid (Oz w1 g c (if G.even then zeroTo G.l 0 else G.l) w2):=az (by rw[HEL.o];exact⟨hb2,harr,hg⟩);clear ho2 hb2 harr hg hown c1;go_wp2_with fail;go_loopw [15] (λi wr=>∃n:Nat,n<=G.l.length/\i=vi n/\Hid (Oz w1 g c (if G.even then zeroTo G.l n else G.l) wr)) (λi _=>G.l.length-(intOf i).toNat)
 case atStart=>exact⟨0,Nat.zero_le _,rfl,ST⟩
 case round =>
  clear ST;obtain⟨n,hn,rfl,st⟩:=hrel;by_cases hlt:n<G.l.length
  ·have c5:wr.cell? ⟨m,5,none⟩=some (acg G.even):=(H1.o.old st.o.below).cells.2.2.2.2.2;have hn0:(0:Int)<=(n:Int):=aa;have hn1:(n:Int)<(G.l.length:Int):=aa;generalize hev:G.even=ev at*;cases ev
   ·rw[if_neg ai]at st;go_wp2;go_roundw
    case rel=>exact⟨n+1,aa,by go_num,by rw[if_neg ai];exact st⟩
    case measure=>simp[intOf];omega
   rw[if_pos rfl]at st;have hnz:n<(zeroTo G.l n).length:=by rw[HZL.o];exact hlt
   have d2:wr.cell? ⟨g,n*4+2,none⟩=some (vi ((zeroTo G.l n).getD n default).r):=by
    rw[st.o.arr.cell aa,flat_get gT default _ _ _ hnz ag];rfl
   have z2:=st.o.arr.frozen (n*4+2);have S1:Hid (Oz w1 g c (zeroTo G.l (n+1)) (wr.setCell ⟨g,n*4+2,none⟩ (vi 0))):=az (st.o.zero hnz);generalize ((zeroTo G.l n).getD n default).r=rr at*;clear st hnz;go_wp2;go_roundw
   case rel=>exact⟨n+1,aa,by go_num,S1⟩
   case measure=>simp[intOf];omega
  obtain rfl:n=G.l.length:=aa;have Kj:Hid ((if G.even then zeroTo G.l G.l.length else G.l).length=G.l.length):=az (by split;exact HZL.o _;rfl);generalize (if G.even then zeroTo G.l G.l.length else G.l)=L at*;have H2:=az (H1.o.old st.o.below);have R2:=az (R0.o.old st.o.below);have RW:=az (WK st.o.arr);rw[Kj.o]at RW;have B2:Hid (acN w.heap.size w wr):=az (by rw[vN.o];exact B0.o.trans (st.o.below.mono (by rw[<-vN.o];exact B0.o.size)));clear st hn hlt hlen;go_wp2_with fail;refine(om H2.o.mgr H2.o.aW).mono ?_;rintro e w4 ⟨rfl,hb4⟩;have H4:=az (H2.o.old hb4)
  have R4:=az (R2.o.old hb4);have W4:=az (RW.o.below hb4);have B4:=az (B2.o.trans (hb4.mono B2.o.size));clear hb4;go_wp2_with fail;refine(fP H4.o.mgr H4.o.aW HF.o).mono ?_;rintro e w5 ⟨rfl,hb5⟩;have H5:=az (H4.o.old hb5);have R5:=az (R4.o.old hb5);have W5:=az (W4.o.below hb5);have B5:=az (B4.o.trans (hb5.mono B4.o.size));clear hb5;generalize bT G M.P=rm at*;go_wp2_with fail;refine(om H5.o.mgr H5.o.aW).mono ?_;rintro e w6 ⟨rfl,hb6⟩;have R6:=az (R5.o.old hb6);have W6:=az (W5.o.below hb6);have B6:=az (B5.o.trans (hb6.mono B5.o.size));clear hb6
  go_wp2_with fail;have HN:=az (gcs.Aq _ L M.P (decide ((M.P:Int)<=rm)) _ W6.o);refine HN.o.mono ?_;rintro e w7 ⟨rfl,tZ⟩;have R7:=az (R6.o.old tZ);have B7:=az (B6.o.trans (tZ.mono B6.o.size));clear tZ HN;generalize gcs.vG L M.P (decide ((M.P:Int)<=rm))=r at*;have c0:w7.cell? ⟨rb,0,none⟩=some (vi 0):=R7.o.cell 0;have c1:w7.cell? ⟨rb,1,none⟩=some (vi 0):=R7.o.cell 1;have z0:=R7.o.frozen 0;have z1:=R7.o.frozen 1;go_wp2_with fail;refine ac5 (v:=gcs.xu r) (by simp[results,results171,go_sem,c0,c1]) rfl ⟨by rw[dN.o],?_⟩;exact(B7.o.setCell (p:=⟨rb,0,none⟩) (by rw[vN.o];exact aj) _).setCell (p:=⟨rb,1,none⟩) (by rw[vN.o];exact aj) _
variable{w':acL}
def field_g2 (x y z:Int)(w:acL):(Instr.field 103 (adA #[vi x,vi y,vi z]) 2).run prog w=.ok (vi z) w:=ah
def Fh (h:aT aA w k M)(hok:M.view.ok)(j p:Int)(a:Option Addr)(l:List Nat)(c:Nat)(hr:dx aA w a l):ac4 prog 204 #[ptr k,vi j,vi p,aco a l.length c] w (dD aA w k M (NP.program M.view j p l)):=nC h hok j p a l c hr
def qh (aA:Nat)(w:acL)(m:Nat)(G:iL)(M:dA)(r:(Int×Int×Int)×NP.bX×Mg)(e:Ending)(w':acL):Prop :=
 ∃M',e=ab4 (adg #[vi r.1.1,vi r.1.2.1,vi r.1.2.2])/\bJ aA w m G M w' r.2.2 M'/\M'.view=r.2.1
def qh.mk {r:(Int×Int×Int)×NP.bX×Mg}{x y z:Int}{V:NP.bX}{g':Mg}(hr:r=((x,y,z),V,g')){M':dA}(hg:bJ aA w m G M w' g' M')(hv:M'.view=V):qh aA w m G M r (ab4 (adg #[vi x,vi y,vi z])) w' :=
 ⟨M',by rw[hr],by rw[hr];exact hg,by rw[hr];exact hv⟩
def Kk (c:NP.bX)(j p:Int)(b:List Nat):(NP.program c j p b).2.B=c.B/\(NP.program c j p b).2.P=c.P/\(NP.program c j p b).2.S=c.S:=by
 unfold NP.program;dsimp only;repeat (first|exact⟨rfl,rfl,rfl⟩|split)
def count_set (s:Int):∀(l:List gcs.aD) (i:Nat) (x:gcs.aD),i<l.length->aN s (l.set i x)+(if (l.getD i default).s=s then 1 else 0)=aN s l+(if x.s=s then 1 else 0)
 |y::l,0,x,_=>by
  unfold aN
  simp only[List.set_cons_zero,List.filter_cons,List.getD_cons_zero,beq_iff_eq]
  split<;>split<;>simp<;>omega
 |y::l,i+1,x,h=>by
  have ih:=count_set s l i x (by simpa using h)
  unfold aN at ih ⊢
  simp only[List.set_cons_succ,List.filter_cons,List.getD_cons_succ,beq_iff_eq]at ih ⊢
  by_cases hy:y.s=s
  rw[if_pos hy,if_pos hy];simp only[List.length_cons];omega
  rw[if_neg hy,if_neg hy];exact ih
def Mg.ready (g:Mg):Mg:=if g.at_= -1 then g.begun else g
def Mg.need (g:Mg):Nat:=aN 0 g.l+(if g.at_= -1 then 1 else 2)
def Mg.mI (b:List Nat)(n:Nat)(c:NP.bX)(g:Mg):(Int×Int×Int)×NP.bX×Mg :=
 if g.at_= -1 then ((0,0,40),c,g)
 else
  let i:=g.at_.toNat
  let x:=g.blk i
  let r:=NP.program c i x.n b
  if r.1=10 then Mg.progTo b n r.2 (g.close i)
  else if r.1=0 then
   let g1:=g.put i {x with n:=x.n+1,l:=x.l+1}
   ((i,x.n,0),r.2,if x.n+1=c.P then g1.close i else g1)
  else if r.1=11 then ((i,x.n,11),r.2,g.close i)
  else ((0,0,r.1),r.2,g)
def nE (b:List Nat)(n:Nat)(c:NP.bX)(g:Mg):Mg.progTo b (n+1) c g=Mg.mI b n c g.ready:=rfl
variable{g:Mg}{i:Nat}
def Mg.Kl (hi:i<g.l.length)(ha:g.at_=i)(hs:(g.blk i).s=1):(g.close i).need+1=aN 0 g.l+2:=by
 have h1:=count_set 0 g.l i (dH (g.blk i)) hi;have h2:(dH (g.blk i)).s≠0:=by unfold dH;dsimp only;split<;>decide
 have h3:¬(g.l.getD i default).s=0:=by
  have:(g.l.getD i default).s=1:=hs;omega
 rw[if_neg h2,if_neg h3]at h1;have h4:(g.close i).at_= -1:=by unfold Mg.close Mg.shut Mg.put;dsimp only;rw[if_pos ha.symm]
 have h5:(g.close i).l=g.l.set i (dH (g.blk i)):=rfl;unfold Mg.need;rw[h4,h5,if_pos rfl];omega
def Mg.Km (ha:g.ready.at_≠ -1):aN 0 g.ready.l+2<=g.need:=by
 unfold Mg.ready at ha ⊢;by_cases h0:g.at_= -1;rw[if_pos h0]at ha ⊢;unfold Mg.begun at ha ⊢;split;rename_i h1;rw[if_pos h1]at ha;exact absurd h0 ha;rename_i h1;have hi:g.freeI.toNat<g.l.length:=by have:=g.freeI_lt;omega
 have h2:=count_set 0 g.l g.freeI.toNat ⟨1,0,(g.blk g.freeI.toNat).r,0⟩ hi;have h3:(g.l.getD g.freeI.toNat default).s=0:=Mg.freeI_free aa;rw[if_pos h3,if_neg (show ¬(1:Int)=0 by decide)]at h2;unfold Mg.need;rw[if_pos h0];show aN 0 (g.l.set _ _)+2<=_;omega;rw[if_neg h0];unfold Mg.need;rw[if_neg h0];exact aj
def Mg.ok.ready {c:NP.bX}(h:g.ok c)(hP:0<c.P):g.ready.ok c:=by
 unfold Mg.ready;split;rename_i h0;exact h.begun hP h0;exact h
structure PSt (aA:Nat)(w:acL)(m:Nat)(G:iL)(M:dA)(l:List Nat)(R:(Int×Int×Int)×NP.bX×Mg)(k:Nat)(wr:acL)(g:Mg)(M':dA):Prop where
 goes:bJ aA w m G M wr g M'
 vok:M'.view.ok
 lL:g.ok M'.view
 eq:R=Mg.progTo l k M'.view g
 need:g.need<=k
 P:M'.P=M.P
def nC (h:Held aA w m G M)(hok:M.view.ok)(hg:G.view.ok M.view)(a:Option Addr)(l:List Nat)(c:Nat)(hr:dx aA w a l) :
  ac4 prog 173 #[ptr m,aco a l.length c] w (qh aA w m G M (G.view.program l M.view)):=by
 have dN:Hid (G.view.program l M.view=if M.down then ((0,0,4),M.view,G.view) else if l.length≠M.S+32 then ((0,0,1),M.view,G.view) else Mg.progTo l (aN 0 G.l+2) M.view G.view):=az rfl;have HR:=az (ou h);have H:=az h;have vM:=az hok;have Y6:=az hg;have HRW:=az hr;have hS:=(EY hok).1;obtain⟨c0,c1,c2,c3,c4,c5⟩:=h.cells;clear c1 c2 c3 c4 c5;by_cases hd:M.down=true
 ·rw[hd,if_pos rfl]at HR dN;clear h hok hg hr hd;go_in;go_wp2_with fail;go_step3;go_wp2_with fail;refine HR.o.mono ?_;rintro e w' ⟨rfl,rfl⟩;go_wp2_with fail;rw[acY];go_ret3;exact qh.mk dN.o (bJ.refl H.o) rfl
 have hd':M.down=false:=by simpa using hd
 rw[hd',if_neg ai]at HR dN;by_cases hl:l.length=M.S+32
 ·rw[if_neg (by simpa using hl)]at dN;have hq:((l.length:Int) != (M.S:Int)+32)=false:=by rw[hl];simp
  have hP4:Hid (4<=M.P/\M.P<=32):=az (by
   have:NP.bH M.B M.P M.S=true:=hok.right
   unfold NP.bH at this
   simp only[ac8,decide_eq_true_eq]at this
   omega)
  clear h hok hg hr hd hd' hl;go_in;go_wp2_with fail;go_step3;go_wp2_with fail;refine HR.o.mono ?_;rintro e w' ⟨rfl,rfl⟩;go_wp2_with fail;refine(iZ H.o.aW).mono ?_;rintro e w1 ⟨rfl,hb1⟩;have hf:=field_g2;have hst:PSt aA w' m G M l (G.view.program l M.view) (aN 0 G.l+2) w1 G.view M:=⟨bJ.aX H.o hb1,vM.o,Y6.o,dN.o,by unfold Mg.need;split<;>simp,rfl⟩;have HST:=az hst;generalize G.view.program l M.view=R at*;clear hb1 c0 hst;go_wp2_with fail;clear hf;go_step3;go_wp2_with fail;go_loopg [8,9,10] (aN 0 G.l+2) (λn s8 s9 s10 wr=>∃(x y:Int) (g:Mg) (M':dA),s8=vi x/\s9=vi y/\s10=vi 40/\Hid (PSt aA w' m G M l R n wr g M'))
  case atStart=>exact⟨0,0,G.view,M,rfl,rfl,rfl,HST⟩
  case round =>
   clear HST;obtain⟨x,y,g,M',rfl,rfl,rfl,HST⟩:=hrel;obtain⟨n,rfl⟩:∃n,gk=n+1:=⟨gk-1,by have:=HST.o.need;unfold Mg.need at this;split at this<;>omega⟩;have k2:wr.cell? ⟨m,2,none⟩=some (vi g.at_):=HST.o.goes.at_.cells.2.2.1;have HE:=az HST.o.eq;rw[nE]at HE;have hg1:0<M'.view.P:=by have h1:=hP4.o;have h2:=HST.o.P;show 0<M'.P;omega
   have HGR:=az (HST.o.lL.ready hg1);have Sa:=az (λh=>abX (Mg.Km (g:=g) h) HST.o.need);have HVK:=az HST.o.vok;have AR:=az HST.o.P;clear hg1;go_upto_region 7 with fail;go_cut [35] from 27 to 94 (λv wx=>v=acg (g.ready.at_ != -1)/\Hid (bJ aA w' m G M wx g.ready M'))
   case first =>
    by_cases ha:g.at_= -1
    ·have haq:(g.at_ != -1)=false:=by simp[ha]
     have bK:Hid (g.ready=g.begun):=az (by unfold Mg.ready;rw[if_pos ha]);have yB:Hid (decide (0<=g.freeI)=(g.begun.at_ != -1)):=az (by
      unfold Mg.begun
      split
      rename_i h1
      rw[decide_eq_false aa,haq]
      rename_i h1
      rw[decide_eq_true aa]
      have:(g.gU g.freeI.toNat).at_=g.freeI.toNat:=rfl
      rw[this];simp only[Bool.true_eq,bne_iff_ne,ne_eq];omega)
     clear ha;go_wp2_with fail;refine(sH HST.o.goes.at_).mono ?_;rintro e wx ⟨rfl,hgx⟩;have HGX:=az (HST.o.goes.trans hgx);clear hgx;rw[show (iL.view (G.lay g)).freeI=g.freeI from rfl,yB.o];go_wp2;go_meet;exact⟨by rw[bK.o],by rw[bK.o];exact HGX⟩
    have haq:(g.at_ != -1)=true:=by simp[ha]
    have bK:Hid (g.ready=g):=az (by unfold Mg.ready;rw[if_neg ha]);clear ha;go_wp2;go_meet;exact⟨by rw[bK.o,haq],by rw[bK.o];exact az HST.o.goes⟩
   case rest =>
   obtain⟨rfl,HG2⟩:=hcut;clear k2 HST;generalize g.ready=g2 at*;by_cases ha:g2.at_= -1
   ·have haq:(g2.at_ != -1)=false:=by simp[ha]
    have HE2:Hid (R=((0,0,40),M'.view,g2)):=az (by rw[HE.o];unfold Mg.mI;rw[if_pos ha]);clear ha;go_wp2_with fail;rw[acY];go_ret3;exact qh.mk HE2.o HG2.o rfl
   have haq:(g2.at_ != -1)=true:=by simp[ha]
   rcases HGR.o.QP with e|⟨i,hat,hi,hsi⟩;exact absurd e ha;have hx:=HGR.o.open_ (g2.blk i) (dG hi) hsi;have hr:=HGR.o.QO (g2.blk i) (dG hi);have hE:R=Mg.mI l n M'.view g2:=HE.o;unfold Mg.mI at hE;dsimp only at hE;rw[if_neg ha,hat,acW]at hE;have hact:=NP.qP HVK.o (faults_small HG2.o.at_.aW.faults) (.program i (g2.blk i).n l) HRW.o.row.small;change (NP.program M'.view i (g2.blk i).n l).2.ok/\_ at hact;have hBP:=Kk M'.view i (g2.blk i).n l;have JS:Hid (∀w',bJ aA w' m (G.lay g2) M' w' g2 M'->dx aA w' a l->ac4 prog 204 #[ptr G.k,vi i,vi (g2.blk i).n,aco a l.length c] w' (dD aA w' G.k M' (NP.program M'.view i (g2.blk i).n l))):=az (λw' h hr=>Fh h.at_.aW HVK.o i _ a l c hr)
   have HNC:Hid ((g2.close i).need<=n):=az (by
    have h1:=Mg.Kl hi hat hsi
    have h2:=Sa.o ha
    omega)
   have Dj:Hid ((g2.close i).ok M'.view):=az (HGR.o.close hi);have yD:=az hi;have hP2:M'.view.P=M.P:=AR.o;have hP5:=hP4.o;rw[hP2]at hx hr hE;have k0:wc.cell? ⟨m,0,none⟩=some (ptr G.k):=HG2.o.at_.cells.1;have k1:wc.cell? ⟨m,1,none⟩=some (aco (some ⟨G.gl,0,none⟩) g2.l.length G.cl):=HG2.o.at_.cells.2.1;have k2:wc.cell? ⟨m,2,none⟩=some (vi i):=by have:=HG2.o.at_.cells.2.2.1;rw[<-hat];exact this
   obtain⟨d0,d1,d2,d3⟩:=HG2.o.at_.j3 (i:=i) hi;change _=some (vi (g2.blk i).n) at d3;have hi0:(0:Int)<=(i:Int):=aa;have hi1:(i:Int)<(g2.l.length:Int):=aa;generalize AV:g2.blk i=x at*;generalize hr1:(NP.program M'.view i x.n l).1=r1 at*;generalize hr2:(NP.program M'.view i x.n l).2=V2 at*;have HX:=az AV;have HR1:=az hr1;have HR2:=az hr2;have HE2:=az hE;have ahe:=az hact;have HBP:=az hBP;have HXB:=az hx;have vN:=az hr;clear ha hat hi hsi hx hr hE hact hBP hP2 AV hr1 hr2 d0 d1 d2 HE;obtain⟨xs,xl,xr,xn⟩:=x;dsimp only at*;go_wp2_with fail;refine(JS.o _ (bJ.refl HG2.o.at_) (HRW.o.aJ HG2.o.aJ H.o.mine)).mono ?_
   rintro e wd ⟨Md,rfl,hgd,hvd⟩;rw[HR1.o];rw[HR2.o]at hvd;have oC:=az (HG2.o.trans (HG2.o.at_.jG hgd));have V5:=az hvd;clear hgd hvd k0 k1 k2 d3;by_cases e10:r1=10
   ·subst e10;have WL:Hid (R=Mg.progTo l n V2 (g2.close i)):=az (by rw[HE2.o,if_pos rfl]);clear HE2;go_wp2_with fail;refine(xy oC.o.at_ i yD.o).mono ?_;rintro e we ⟨rfl,hge⟩;have AX:=az (oC.o.trans hge);clear hge;go_wp2_with fail;go_roundg n
    case measure=>omega
    case rel =>
     refine⟨i,xn,g2.close i,Md,rfl,rfl,rfl,az ⟨AX.o,by rw[V5.o];exact ahe.o.1,Dj.o.aW (by rw[V5.o];exact HBP.o.1) (by rw[V5.o];exact HBP.o.2.1),by rw[V5.o];exact WL.o,HNC.o,?_⟩⟩;have h1:Md.view.P=M'.view.P:=by rw[V5.o];exact HBP.o.2.1
     exact h1.trans AR.o
   have q10:(r1==10)=false:=beq_eq_false_iff_ne.2 e10;by_cases e0:r1=0
   ·subst e0;rw[if_neg ag,if_pos rfl]at HE2;have k0:wd.cell? ⟨m,0,none⟩=some (ptr G.k):=oC.o.at_.cells.1;obtain⟨d0,d1,d2,d3⟩:=oC.o.at_.j3 (i:=i) yD.o;change wd.cell? _=some (vi (g2.blk i).l) at d1;change wd.cell? _=some (vi (g2.blk i).n) at d3;rw[HX.o]at d1 d3;dsimp only at d1 d3;have z1:=oC.o.at_.mgr.row.frozen (i*4+1);have z3:=oC.o.at_.mgr.row.frozen (i*4+3);have hx:=HXB.o;have hr:=vN.o;have q1:adk.wrap (xn+1)=xn+1:=adl _ aa;have q2:adk.wrap (xl+1)=xl+1:=adl _ aa;have HY:Hid (bJ aA w' m G M ((wd.setCell ⟨G.gl,i*4+3,none⟩ (vi (xn+1))).setCell ⟨G.gl,i*4+1,none⟩ (vi (xl+1))) (g2.put i ⟨xs,xl+1,xr,xn+1⟩) Md):=az (by
     have hx2:(iL.lay G g2).l.getD i default=⟨xs,xl,xr,xn⟩:=HX.o
     have h1:=oC.o.at_.cell (i:=i) (j:=3) yD.o ag (vi (xn+1)) ⟨xs,xl,xr,xn+1⟩ (by rw[hx2];rfl)
     have h2:=h1.at_.cell (i:=i) (j:=1) (by simpa[Mg.put] using yD.o) ag (vi (xl+1)) ⟨xs,xl+1,xr,xn+1⟩ (by dsimp only[iL.lay,Mg.put,iL.view];rw[il _ _ _ _ yD.o,if_pos rfl];rfl)
     have h3:=oC.o.trans (h1.trans h2)
     simpa only[Mg.put,iL.view,iL.lay,List.set_set] using h3)
    have Oe:Hid (∀n:Sub ((wd.setCell ⟨G.gl,i*4+3,none⟩ (vi (xn+1))).setCell ⟨G.gl,i*4+1,none⟩ (vi (xl+1))),ac4 prog 201 #[ptr m] n.w λe w'=>e=ab4 (vi Md.P)/\acN n.w.heap.size n.w w'):=az (λn=>om (HY.o.at_.mgr.old n.below) (HY.o.at_.aW.old n.below));have hMP:Md.P=M.P:=by
     have h1:Md.view.P=M'.view.P:=by rw[V5.o];exact HBP.o.2.1
     exact h1.trans AR.o
    rw[hMP]at Oe;have HCI:=az (show i<(g2.put i ⟨xs,xl+1,xr,xn+1⟩).l.length by simpa[Mg.put] using yD.o);clear d0 d2 hMP e10;generalize g2.put i ⟨xs,xl+1,xr,xn+1⟩=g3 at*;go_upto_region 19 with fail;have e3:((wd.setCell ⟨G.gl,i*4+3,none⟩ (vi (xn+1))).setCell ⟨G.gl,i*4+1,none⟩ (vi (xl+1))).cell? ⟨G.gl,i*4+3,none⟩=some (vi (xn+1)):=by
     rw[ac6 _ _ _ _ (by intro e;injection e with _ e;omega)];go_simp
    generalize (wd.setCell ⟨G.gl,i*4+3,none⟩ (vi (xn+1))).setCell ⟨G.gl,i*4+1,none⟩ (vi (xl+1))=we at*;have e3:=Sub.cell e3;clear d1 d3 z1 z3 k0;refine aZ ah ah ?_;repeat (go_big_quiet_step (exact fM (Oe.o _)))
    refine adE ?_;rintro _ ⟨nq,rfl⟩;have HZ:=az (HY.o.old nq.below);clear e3;by_cases hnp:xn+1=(M.P:Int)
    ·have hnq:(xn+1==(M.P:Int))=true:=beq_iff_eq.2 hnp;have WL:Hid (R=(((i:Int),xn,0),V2,g3.close i)):=az (by rw[HE2.o,if_pos hnp]);clear hnp HE2 hx hr;go_wp2_with fail;refine(xy HZ.o.at_ i HCI.o).mono ?_;rintro e wf ⟨rfl,hgf⟩;have HGF:=az (HZ.o.trans hgf);clear hgf;go_wp2_with fail;rw[acY];go_ret3;exact qh.mk WL.o HGF.o V5.o
    have hnq:(xn+1==(M.P:Int))=false:=beq_eq_false_iff_ne.2 hnp;have WL:Hid (R=(((i:Int),xn,0),V2,g3)):=az (by rw[HE2.o,if_neg hnp]);clear hnp HE2 hx hr;go_wp2_with fail;rw[acY];go_ret3;exact qh.mk WL.o HZ.o V5.o
   have q0:(r1==0)=false:=beq_eq_false_iff_ne.2 e0;have q0':(r1 != 0)=true:=by simp[e0]
   by_cases e11:r1=11
   ·subst e11;have WL:Hid (R=(((i:Int),xn,11),V2,g2.close i)):=az (by rw[HE2.o,if_neg ag,if_neg ag,if_pos rfl]);clear HE2;go_wp2_with fail;refine(xy oC.o.at_ i yD.o).mono ?_;rintro e we ⟨rfl,hge⟩;have AX:=az (oC.o.trans hge);clear hge;go_wp2_with fail;rw[acY];go_ret3;exact qh.mk WL.o AX.o V5.o
   have q11:(r1==11)=false:=beq_eq_false_iff_ne.2 e11;have amB:(r1 != 11)=true:=by simp[e11]
   have WL:Hid (R=((0,0,r1),V2,g2)):=az (by rw[HE2.o,if_neg e10,if_neg e0,if_neg e11]);clear HE2 e10 e0 e11;go_wp2_with fail;rw[acY];go_ret3;exact qh.mk WL.o oC.o V5.o
 have HD2:Hid (G.view.program l M.view=((0,0,1),M.view,G.view)):=az (by rw[dN.o,if_pos hl]);have hq:((l.length:Int) != (M.S:Int)+32)=true:=by simp only[bne_iff_ne,ne_eq];omega
 clear h hok hg hr hd hd' hl dN;go_in;go_wp2_with fail;go_step3;go_wp2_with fail;refine HR.o.mono ?_;rintro e w' ⟨rfl,rfl⟩;go_wp2_with fail;refine(iZ H.o.aW).mono ?_;rintro e w1 ⟨rfl,hb1⟩;have hf:=field_g2;have qI:=az (bJ.aX H.o hb1);clear hb1 c0;go_wp2_with fail;rw[acY];go_ret3;exact qh.mk HD2.o qI.o rfl
def Mg.bV (c:NP.bX)(g1:Mg)(i:Nat)(e:Int):Int×NP.bX×Mg :=
 if e=0 then (0,c,(g1.put i ⟨0,0,NP.bC c i,0⟩).shut i)
 else if e=11 then (11,(Mg.gone c g1 i).2)
 else (e,c,g1)
def OA {c:NP.bX}{k:Int}(hz:g.idle c k=0):∃i:Nat,k=i/\i<g.l.length:=by
 unfold Mg.idle at hz;split at hz;simp at hz;split at hz;simp at hz;rename_i h1 h2;obtain⟨i,h3,h4,_⟩:=xC (k:=k) (g:=g) (by
  cases ht:g.there k
  exact absurd (ack ht) h2
  rfl)
 exact⟨i,h3,h4⟩
def Kn (h:aT aA w k M)(hok:M.view.ok)(j:Int):ac4 prog 86 #[ptr k,vi j] w (dD aA w k M (NP.erase M.view j)):=sJ h hok j
def Sb {V:NP.bX}{M':dA}(hv:M'.view=V)(hok:V.ok)(j:Int):vI M' j=NP.bC V j:=by rw[uN M' (by rw[hv];exact hok),hv]
def sJ (h:Held aA w m G M)(hok:M.view.ok)(k:Int):ac4 prog 217 #[ptr m,vi k] w (ow aA w m G M (G.view.erase M.view k)):=by
 have HI:=az (RZ h k);have H:=az h;by_cases hz:G.view.idle M.view k=0
 ·obtain⟨i,rfl,hi⟩:=OA hz;have hi0:(0:Int)<=(i:Int):=aa;have hi1:(i:Int)<(G.l.length:Int):=by
   have:i<G.l.length:=hi;omega
  have yD:Hid (i<G.l.length):=az hi;obtain⟨c0,c1,c2,c3,c4,c5⟩:=h.cells;obtain⟨d0,d1,d2,d3⟩:=h.j3 hi;have dN:Hid (G.view.erase M.view i=if (G.l.getD i default).s=1/\0<(G.l.getD i default).n then (1,M.view,G.view) else
    Mg.bV (NP.erase M.view i).2 (G.view.put i {G.l.getD i default with r:=NP.bC (NP.erase M.view i).2 i}) i (NP.erase M.view i).1):=az (by
   unfold Mg.erase Mg.bV
   dsimp only
   rw[hz,if_neg ai,acW])
  rw[hz]at HI;by_cases ho:(G.l.getD i default).s=1/\0<(G.l.getD i default).n
  ·rw[if_pos ho]at dN;have hs:((G.l.getD i default).s==1)=true:=beq_iff_eq.2 ho.1;have hn:=ho.2;generalize (G.l.getD i default).s=xs at*;generalize (G.l.getD i default).n=xn at*;clear h hok hz hi d1 d2 c0 c2 c3 c4 c5 ho;go_in;go_wp2_with fail;refine HI.o.mono ?_;rintro e w' ⟨rfl,rfl⟩;go_wp2;go_ret;exact ow.mk dN.o (bJ.refl H.o) rfl
  rw[if_neg ho]at dN;have hact:=(NP.qP hok (faults_small h.aW.faults) (.erase i) trivial).1;change (NP.erase M.view i).2.ok at hact;have HE:=az (Kn h.aW hok i);generalize hr1:(NP.erase M.view i).1=r1 at*;generalize hr2:(NP.erase M.view i).2=V2 at*;have WH:=az hact;have HE2:Hid (ac4 prog 86 #[ptr G.k,vi i] w λe w'=>∃M',e=ab4 (vi r1)/\Goes aA w G.k M w' M'/\M'.view=V2):=az (HE.o.mono (by
   rintro e w' ⟨M',he,hg,hv⟩
   exact⟨M',by rw[he,hr1],hg,by rw[hv,hr2]⟩))
  clear hr1 hr2 hact HE h hok hz hi c2 c3 c4 c5 d1 d2;have hdec:((G.l.getD i default).s==1)=false\/(((G.l.getD i default).s==1)=true/\¬0<(G.l.getD i default).n):=by
   by_cases hs:(G.l.getD i default).s=1;exact acm ⟨beq_iff_eq.2 hs,λhn=>ho ⟨hs,hn⟩⟩;exact ack (beq_eq_false_iff_ne.2 hs)
  clear ho;generalize (G.l.getD i default).s=xs at d0 hdec;generalize (G.l.getD i default).n=xn at d3 hdec;have OB:=az hdec;clear hdec;go_in;go_wp2_with fail;refine HI.o.mono ?_;rintro e w' ⟨rfl,rfl⟩;go_upto_region 4 with fail;go_cut [32] from 13 to 32 (λv wx=>v=acg false/\wx=w')
  case first =>
   rcases OB.o with hs|⟨hs,hn⟩
   ·go_wp2;go_meet;exact⟨rfl,rfl⟩
   have hn':decide (0<xn)=false:=decide_eq_false aa;go_wp2;go_meet;exact⟨rfl,rfl⟩
  case rest =>
  obtain⟨rfl,rfl⟩:=hcut;clear OB d0 d3;go_wp2_with fail;refine HE2.o.mono ?_;rintro e w1 ⟨M',rfl,hg,hv⟩;have qI:=az (H.o.jG hg);have HV:=az hv;have HW:=az (λw' (hc:aT aA w' G.k M')=>Aw hc i);rw[Sb hv WH.o]at HW;clear hg hv c0 c1;have k0:w1.cell? ⟨m,0,none⟩=some (ptr G.k):=qI.o.at_.cells.1;have k1:w1.cell? ⟨m,1,none⟩=some (aco (some ⟨G.gl,0,none⟩) G.l.length G.cl):=qI.o.at_.cells.2.1;have d2:=(qI.o.at_.j3 yD.o).2.2.1;have z2:=qI.o.at_.mgr.row.frozen (i*4+2);have hne:Hid (G.gl≠m):=az (λe=>H.o.ne e.symm);have hne1:¬G.gl=m:=hne.o;have HS:Hid (w1.drew.cell? ⟨m,0,none⟩=some (ptr G.k)/\w1.drew.cell? ⟨m,1,none⟩=some (aco (some ⟨G.gl,0,none⟩) G.l.length G.cl)):=az ⟨k0,k1⟩
  have Om:Hid (∀o j,(⟨G.gl,o,none⟩:Addr)≠⟨m,j,none⟩):=az (λo j e=>hne.o (by injection e));have V4:=az (HW.o _ (qI.o.at_.aW.old au));have HG2:Hid (bJ aA wc m G M (w1.setCell ⟨G.gl,i*4+2,none⟩ (vi (NP.bC V2 i))).drew (G.view.put i {G.l.getD i default with r:=NP.bC V2 i}) M'):=az
   ((qI.o.trans (qI.o.at_.cell (i:=i) (j:=2) yD.o ag (vi (NP.bC V2 i)) {G.l.getD i default with r:=NP.bC V2 i} rfl)).old au)
  have Kj:Hid ((G.view.put i {G.l.getD i default with r:=NP.bC V2 i}).l.length=G.l.length):=az (by simp[Mg.put]);generalize G.view.put i {G.l.getD i default with r:=NP.bC V2 i}=g1 at*;generalize (G.l.getD i default).r=xr at*;go_upto_region 7 with fail;go_region_held3 (λw'=>w'.cell? ⟨m,0,none⟩=some (ptr G.k)/\w'.cell? ⟨m,1,none⟩=some (aco (some ⟨G.gl,0,none⟩) G.l.length G.cl))
   (first
    |exact HS.o
    |exact⟨(ac6 _ _ _ _ (Om.o _ _)).trans HS.o.1,(ac6 _ _ _ _ (Om.o _ _)).trans HS.o.2⟩)
   (first|(go_at_call 123;refine V4.o.mono ?_;rintro e w' ⟨rfl,rfl⟩))
  change Exit.then _ _ _ _ (w1.setCell ⟨G.gl,i*4+2,none⟩ (vi (NP.bC V2 i))).drew;clear k0 k1 d2 z2 HS V4 qI;generalize (w1.setCell ⟨G.gl,i*4+2,none⟩ (vi (NP.bC V2 i))).drew=w2 at*;have ahg:Hid (M'.view.ok):=az (by rw[HV.o];exact WH.o);by_cases h0:r1=0
  ·subst h0;have yE:Hid (G.view.erase M.view i=(0,V2,(g1.put i ⟨0,0,NP.bC V2 i,0⟩).shut i)):=az (by rw[dN.o];rfl);have k0:w2.cell? ⟨m,0,none⟩=some (ptr G.k):=HG2.o.at_.cells.1;have k1:w2.cell? ⟨m,1,none⟩=some (aco (some ⟨G.gl,0,none⟩) G.l.length G.cl):=by
    rw[<-Kj.o];exact HG2.o.at_.cells.2.1
   have hi3:i<g1.l.length:=by rw[Kj.o];exact yD.o
   obtain⟨d0,d1,d2,d3⟩:=HG2.o.at_.j3 hi3;have z:=λj=>HG2.o.at_.mgr.row.frozen j
   have zz0:=z (i*4);have zz1:=z (i*4+1);have zz2:=z (i*4+2);have zz3:=z (i*4+3);have HS:Hid (w2.drew.cell? ⟨m,0,none⟩=some (ptr G.k)/\w2.drew.cell? ⟨m,1,none⟩=some (aco (some ⟨G.gl,0,none⟩) G.l.length G.cl)):=az ⟨k0,k1⟩;have V4:=az (HW.o _ (HG2.o.at_.aW.old au));have uO:Hid (bJ aA wc m G M ((((w2.setCell ⟨G.gl,i*4,none⟩ (vi 0)).setCell ⟨G.gl,i*4+1,none⟩ (vi 0)).setCell ⟨G.gl,i*4+2,none⟩ (vi (NP.bC V2 i))).setCell ⟨G.gl,i*4+3,none⟩ (vi 0)).drew (g1.put i ⟨0,0,NP.bC V2 i,0⟩) M'):=az
    ((HG2.o.trans (HG2.o.at_.block (i:=i) hi3 ⟨0,0,NP.bC V2 i,0⟩)).old au)
   dsimp only[iL.lay]at d0 d1 d2 d3;generalize (g1.l.getD i default).s=y0 at*;generalize (g1.l.getD i default).l=y1 at*;generalize (g1.l.getD i default).r=y2 at*;generalize (g1.l.getD i default).n=y3 at*;clear z HW hi3 dN;go_upto_region 11 with fail;go_region_held3 (λw'=>w'.cell? ⟨m,0,none⟩=some (ptr G.k)/\w'.cell? ⟨m,1,none⟩=some (aco (some ⟨G.gl,0,none⟩) G.l.length G.cl))
    (first
     |exact HS.o
     |exact⟨(Ff hne.o).trans HS.o.1,(Ff hne.o).trans HS.o.2⟩)
    (first|(go_at_call 123;refine V4.o.mono ?_;rintro e w' ⟨rfl,rfl⟩))
   change Exit.then _ _ _ _ ((((w2.setCell ⟨G.gl,i*4,none⟩ (vi 0)).setCell ⟨G.gl,i*4+1,none⟩ (vi 0)).setCell ⟨G.gl,i*4+2,none⟩ (vi (NP.bC V2 i))).setCell ⟨G.gl,i*4+3,none⟩ (vi 0)).drew;clear k0 k1 d0 d1 d2 d3 zz0 zz1 zz2 zz3 HS V4 HG2;generalize ((((w2.setCell ⟨G.gl,i*4,none⟩ (vi 0)).setCell ⟨G.gl,i*4+1,none⟩ (vi 0)).setCell ⟨G.gl,i*4+2,none⟩ (vi (NP.bC V2 i))).setCell ⟨G.gl,i*4+3,none⟩ (vi 0)).drew=w3 at*;have k2:w3.cell? ⟨m,2,none⟩=some (vi g1.at_):=uO.o.at_.cells.2.2.1;have z2:=uO.o.at_.mgr.mgr.frozen 2;by_cases ha:(i:Int)=g1.at_
   ·have hq:((i:Int)==g1.at_)=true:=beq_iff_eq.2 ha;have HE:=az (uO.o.shut (i:=i) ha);clear ha;go_wp2;go_ret;exact ow.mk yE.o HE.o HV.o
   have hq:((i:Int)==g1.at_)=false:=beq_eq_false_iff_ne.2 ha;have HE:=az (uO.o.EU (i:=i) ha);clear ha;go_wp2;go_ret;exact ow.mk yE.o HE.o HV.o
  have hq0:(r1==0)=false:=beq_eq_false_iff_ne.2 h0;by_cases h11:r1=11
  ·subst h11;have yE:Hid (G.view.erase M.view i=(11,(Mg.gone V2 g1 i).2)):=az (by rw[dN.o];rfl);clear hq0 h0 dN;go_wp2_with fail;refine(R3 HG2.o.at_ ahg.o i (by dsimp only[iL.lay];rw[Kj.o];exact yD.o)).mono ?_;rintro e w3 ⟨M3,rfl,hg3,hv3⟩;rw[HV.o]at hg3 hv3;have iR:=az (HG2.o.trans hg3);have CV:=az hv3;clear hg3 hv3;rw[HV.o];change Hid (bJ aA wc m G M w3 (Mg.gone V2 g1 i).2.2 M3) at iR;change Hid (M3.view=(Mg.gone V2 g1 i).2.1) at CV;generalize Mg.gone V2 (iL.lay G g1).view i=X at*;go_wp2;go_ret;exact⟨M3,bS (by rw[yE.o]),by rw[yE.o];exact iR.o,by rw[yE.o];exact CV.o⟩
  have hq1:(r1==11)=false:=beq_eq_false_iff_ne.2 h11;have yE:Hid (G.view.erase M.view i=(r1,V2,g1)):=az (by rw[dN.o];unfold Mg.bV;rw[if_neg h0,if_neg h11]);clear h0 h11 dN;go_wp2;go_ret;exact ow.mk yE.o HG2.o HV.o
 have dN:Hid (G.view.erase M.view k=(G.view.idle M.view k,M.view,G.view)):=az (by unfold Mg.erase;dsimp only;rw[if_pos hz]);generalize G.view.idle M.view k=n at*;have hzq:(n != 0)=true:=by simp[hz]
 clear h hok hz;go_in;go_wp2_with fail;refine HI.o.mono ?_;rintro e w' ⟨rfl,rfl⟩;go_wp2;go_ret;exact ow.mk dN.o (bJ.refl H.o) rfl
structure gW (c:NP.bX):Prop where
 ok:c.ok
 small:NP.small c.fs
 order:c.order
def gW.act {c:NP.bX}(h:gW c)(a:NP.Act)(ha:a.fine):gW (NP.act c a):=by
 obtain⟨h1,h2⟩:=NP.qP h.ok h.small a ha;exact⟨h1,h2,NP.N7 h.ok h.order a⟩
def OC {b p s:Int}{bad:List Int}{d:NP.bX}(e:NP.new b p s bad=some d):gW d:=by
 obtain⟨h1,h2,h3,_⟩:=NP.aal e;exact⟨h1,(by rw[h3];exact λf hf=>by cases hf),h2⟩
def Mg.jD (g:Mg):iL:=⟨0,g.l,0,0,g.at_,g.aC,g.bad,g.even⟩
def Mg.ok.fit {c:NP.bX}(h:g.ok c)(hB:c.B<=128)(hP:c.P<=32):g.jD.fit c.P:=by
 refine⟨by have:=h.len;show g.l.length<=128;omega,hP,?_⟩;rcases h.QP with e|⟨i,e,hi,hs⟩;exact ack e;have h1:=h.open_ _ (dG hi) hs;have h2:=h.QO _ (dG hi);exact acm ⟨i,e,hi,h2.2.2.2.2.1,h2.2.2.2.2.2⟩
def iL.fit_of {P:Nat}(hv:G.view=g)(h:g.jD.fit P):G.fit P:=by subst hv;exact h
def Sc (hv:G.view=g)(P:Nat):AU G P=AU g.jD P:=by subst hv;rfl
inductive fI (E:Int->Prop)(c:NP.bX):NP.bX->Prop where
 |refl:fI E c c
 |step {c':NP.bX} (a:NP.Act):fI E c c'->a.fine->(∀k,a=.erase k->E k)->fI E c (NP.act c' a)
def sK (c:NP.bX)(a:NP.Act):(NP.act c a).B=c.B/\(NP.act c a).P=c.P/\(NP.act c a).S=c.S:=by
 cases a with
 |program k p b =>
  unfold NP.act NP.program;dsimp only;repeat (first|exact⟨rfl,rfl,rfl⟩|split)
 |erase k =>
  unfold NP.act NP.erase;dsimp only;repeat (first|exact⟨rfl,rfl,rfl⟩|split)
 |mark k =>
  unfold NP.act NP.mark;dsimp only;repeat (first|exact⟨rfl,rfl,rfl⟩|split)
 |read k p =>
  unfold NP.act NP.bQ;dsimp only;repeat (first|exact⟨rfl,rfl,rfl⟩|split)
 |Wv=>exact⟨rfl,rfl,rfl⟩
 |start=>exact⟨rfl,rfl,rfl⟩
 |none=>exact⟨rfl,rfl,rfl⟩
 |script l =>
  show (NP.script c l).2.B=c.B/\(NP.script c l).2.P=c.P/\(NP.script c l).2.S=c.S;unfold NP.script;split<;>exact⟨rfl,rfl,rfl⟩
section
variable{E E':Int->Prop}{c c' c'':NP.bX}
def fI.trans (h:fI E c c')(q:fI E c' c''):fI E c c'':=by
 induction q with
 |refl=>exact h
 |step a _ h2 h3 ih=>exact .step a ih h2 h3
def fI.mono (h:fI E c c')(hE:∀k,E k->E' k):fI E' c c':=by
 induction h with
 |refl=>exact .refl
 |step a _ h2 h3 ih=>exact .step a ih h2 (λk e=>hE k (h3 k e))
def fI.good (h:fI E c c')(hg:gW c):gW c':=by
 induction h with
 |refl=>exact hg
 |step a _ h2 _ ih=>exact ih.act a h2
def fI.bI (h:fI E c c'):c'.B=c.B/\c'.P=c.P/\c'.S=c.S:=by
 induction h with
 |refl=>exact⟨rfl,rfl,rfl⟩
 |step a _ _ _ ih =>
  exact⟨(sK _ a).1.trans ih.1,(sK _ a).2.1.trans ih.2.1,(sK _ a).2.2.trans ih.2.2⟩
def fI.one (a:NP.Act)(h2:a.fine)(h3:∀k,a=.erase k->E k):fI E c (NP.act c a):=.step a .refl h2 h3
def Mg.ok.acts (h:g.ok c)(q:fI E c c'):g.ok c':=h.aW q.bI.1 q.bI.2.1
def sM (h:c.ok):8<=c.B/\c.B<=128/\4<=c.P/\c.P<=32/\64<=c.S:=by
 have:NP.bH c.B c.P c.S=true:=h.right;unfold NP.bH at this;simp only[ac8,decide_eq_true_eq,Bool.or_eq_true,beq_iff_eq]at this;omega
end
section
variable{c:NP.bX}{g:Mg}{b:List Nat}
def yF (hb:∀y∈b,y<256):∀(n:Nat) (c:NP.bX) (g:Mg),fI (λ_=>False) c (Mg.progTo b n c g).2.1
 |0,c,g=>.refl
 |n+1,c,g=>by
  rw[nE]
  unfold Mg.mI
  dsimp only
  generalize g.ready=g
  split
  exact .refl
  have h1:fI (λ_=>False) c (NP.program c g.at_.toNat (g.blk g.at_.toNat).n b).2:=.one (.program g.at_.toNat (g.blk g.at_.toNat).n b) hb (λk e=>by cases e)
  split
  exact h1.trans (yF hb n _ _)
  split
  exact h1
  split<;>exact h1
def kC (hb:∀y∈b,y<256):fI (λ_=>False) c (Mg.program b c g).2.1:=by
 unfold Mg.program;split;exact .refl;split;exact .refl;exact yF hb _ _ _
def Mg.ok.more (h:g.ok c)(hi:i<g.l.length)(ha:g.at_=i)(hs:(g.blk i).s=1) :
  (if (g.blk i).n+1=c.P then (g.put i {g.blk i with n:=(g.blk i).n+1,l:=(g.blk i).l+1}).close i else g.put i {g.blk i with n:=(g.blk i).n+1,l:=(g.blk i).l+1}).ok c:=by
 obtain⟨h1,h2,h3,h4,h5,h6⟩:=h.QO (g.blk i) (dG hi);obtain⟨h7,h8⟩:=h.open_ (g.blk i) (dG hi) hs;split;rename_i e;have e1:(g.put i {g.blk i with n:=(g.blk i).n+1,l:=(g.blk i).l+1}).close i={g with l:=g.l.set i (dH {g.blk i with n:=(g.blk i).n+1,l:=(g.blk i).l+1}),at_:=if (i:Int)=g.at_ then -1 else g.at_}:=by
  unfold Mg.close Mg.shut Mg.put Mg.blk;dsimp only;rw[il _ _ _ _ hi,if_pos rfl,List.set_set]
 rw[e1];refine h.lay hi _ ?_ ?_ ?_ _ ?_ (λ_=>rfl);unfold dH;dsimp only;split<;>omega;unfold dH;dsimp only;split<;>omega;unfold dH;dsimp only;split<;>omega;unfold dH;dsimp only;split<;>omega;have e1:g.put i {g.blk i with n:=(g.blk i).n+1,l:=(g.blk i).l+1}={g with l:=g.l.set i {g.blk i with n:=(g.blk i).n+1,l:=(g.blk i).l+1},at_:=i}:=by
  unfold Mg.put;rw[<-ha]
 rw[e1];refine h.lay hi _ ?_ ?_ ?_ _ ?_ ?_;dsimp only;omega;dsimp only;intro e;exact absurd hs e;dsimp only;omega;intro _;exact⟨acm ha,rfl⟩;dsimp only;intro e;exact absurd hs e
def vO (hb:∀y∈b,y<256):∀(n:Nat) (c:NP.bX) (g:Mg),c.ok->gW c->g.ok c->(Mg.progTo b n c g).2.2.ok (Mg.progTo b n c g).2.1
 |0,c,g,_,_,h=>h
 |n+1,c,g,hc,hG,h=>by
  rw[nE]
  unfold Mg.mI
  dsimp only
  have hr:=h.ready (by have:=sM hc;omega)
  generalize g.ready=g at*
  split
  exact hr
  rename_i ha
  rcases hr.QP with e|⟨i,e,hi,hs⟩
  exact absurd e ha
  rw[e,acW]
  have h1:fI (λ_=>False) c (NP.program c i (g.blk i).n b).2:=.one (.program i (g.blk i).n b) hb (λk e=>by cases e)
  split
  exact vO hb n _ _ (h1.good hG).ok (h1.good hG) ((hr.close hi).acts h1)
  split
  exact(hr.more hi e hs).acts h1
  split
  exact(hr.close hi).acts h1
  exact hr.acts h1
def nP (hb:∀y∈b,y<256)(hG:gW c)(h:g.ok c):(Mg.program b c g).2.2.ok (Mg.program b c g).2.1:=by
 unfold Mg.program;split;exact h;split;exact h;exact vO hb _ _ _ hG.ok hG h
def Fj {k:Int}(h:g.there k=true):0<=k/\k.toNat<g.l.length:=by
 unfold Mg.there at h;simp only[ac8,decide_eq_true_eq]at h;omega
def uQ (h:g.ok c)(k:Int):(g.drop k).2.ok c:=by
 unfold Mg.drop;dsimp only;split;exact h;rename_i hn;simp only[not_or,Bool.not_eq_false]at hn;obtain⟨h0,hi⟩:=Fj hn.1;obtain⟨h1,h2,h3,h4,h5,h6⟩:=h.QO (g.blk k.toNat) (dG hi);have h7:=h.none_ (g.blk k.toNat) (dG hi);have h8:=h.open_ (g.blk k.toNat) (dG hi);have h9:=h.at2 k.toNat hi;have HA:=az h.QP;refine h.lay hi _ ?_ ?_ ?_ g.at_ ?_ ?_;dsimp only;split<;>omega;dsimp only;split<;>omega;dsimp only;split<;>omega;dsimp only;intro e;split at e;omega;have:=h9 e;exact⟨acm this,this⟩;dsimp only;intro e;split;rename_i e2;rcases HA.o with e3|⟨i,e3,hi2,hs⟩;omega;obtain rfl:i=k.toNat:=aa
 rw[if_neg aa]at e;exact absurd hs e;rfl
def Mg.ok.done (h:g.ok c)(hi:i<g.l.length)(s r:Int)(h0:s=0\/s=4):((g.put i ⟨s,0,r,0⟩).shut i).ok c:=by
 refine h.lay hi ⟨s,0,r,0⟩ ?_ ?_ ?_ _ ?_ (λ_=>rfl);dsimp only;omega;dsimp only;omega;dsimp only;omega;dsimp only;omega
def Mg.ok.adr (h:g.ok c)(hi:i<g.l.length)(r:Int):(g.put i {g.blk i with r:=r}).ok c:=by
 have h1:=h.QO (g.blk i) (dG hi);have h7:=h.none_ (g.blk i) (dG hi);have h8:=h.open_ (g.blk i) (dG hi);have h9:=h.at2 i hi;have HA:=az h.QP;refine h.lay hi {g.blk i with r:=r} h1 h7 h8 g.at_ ?_ ?_;intro e;exact⟨acm (h9 e),h9 e⟩;dsimp only;intro e;split;rename_i e2;rcases HA.o with e3|⟨j,e3,hi2,hs⟩;omega;obtain rfl:j=i:=aa;exact absurd hs e;rfl
def OD (k:Nat):fI (λ_=>False) c (Mg.gone c g k).2.1:=by
 unfold Mg.gone;dsimp only;have h1:fI (λ_=>False) c (NP.mark c k).2:=.one (.mark k) trivial (λk e=>by cases e);split<;>exact h1
def aaC {k:Int}(h:g.idle c k=0):0<=k/\k.toNat<g.l.length:=by
 unfold Mg.idle at h;split at h;cases h;split at h;cases h;rename_i hn;simp only[not_or,Bool.not_eq_false]at hn;exact Fj hn.1
def yG (k:Int):fI (λj=>j=k) c (Mg.erase c g k).2.1:=by
 unfold Mg.erase;dsimp only;have h1:fI (λj=>j=k) c (NP.erase c k).2:=.one (.erase k) trivial (λj e=>by injection e with e;exact e.symm);split;exact .refl;split;exact .refl;split;exact h1;split;refine h1.trans ?_;exact(OD _).mono (λ_ e=>e.elim);exact h1
def erase_right (h:g.ok c)(k:Int):(Mg.erase c g k).2.2.ok (Mg.erase c g k).2.1:=by
 refine Mg.ok.acts ?_ (yG (c:=c) (g:=g) k);unfold Mg.erase;dsimp only;split;exact h;rename_i hz;obtain⟨h0,hi⟩:=aaC (by simpa using hz);split;exact h;have hw:=h.adr hi (NP.bC (NP.erase c k).2 k);have hil:k.toNat<(g.put k.toNat {g.blk k.toNat with r:=NP.bC (NP.erase c k).2 k}).l.length:=by
  show k.toNat<(g.l.set _ _).length;rw[List.length_set];exact hi
 split;exact hw.done hil 0 _ (ack rfl);split;dsimp only;unfold Mg.gone;dsimp only;split;exact hw.done hil 4 _ (acm rfl);exact hw;exact hw
end
end mgr
namespace FP
open mgr
structure cB where
 block:Int
 aB:Int
deriving DecidableEq
instance:Inhabited cB:=⟨⟨0,0⟩⟩
structure Ft where
 c:NP.bX
 g:Mg
 aC:Int
 bad:Int
 text:List Nat
 bD:Mp cB
 now:Mp cB
 gone:Mp cB
 seq:Nat
 aM:Nat
 later:List Bool
 over:Bool
def Il (B:Nat)(aC bad:Int):Int:=(B:Int)-bad-aC-1
def Ft.cap (f:Ft):Int:=Il f.c.B f.aC f.bad*f.c.P-2
def Ft.used (f:Ft):Int:=f.bD.length+f.now.length
def left (g:Mg):Int:=g.aC-((aN 4 g.l:Nat)-g.bad)
def Ft.shut (f:Ft):Bool:=f.over||decide (left f.g<0)
def Ft.ready (f:Ft):Int:=if f.c.down then 4 else 0
def Ft.logical (f:Ft)(aB:Nat):Int:=if f.c.down then 4 else if aB=0\/f.cap<=aB then 1 else 0
def Ft.at_ (f:Ft)(aB:Nat):Option cB:=match MP.get f.now aB with
 |some p=>some p
 |none=>if MP.has f.gone aB then none else MP.get f.bD aB
def Ft.aW (f:Ft)(c:NP.bX):Ft:={f with c:=c}
def Ft.read (f:Ft)(aB:Nat):(List Nat×Int)×Ft :=
 let e:=f.logical aB
 if e≠0 then (([],e),f)
 else match f.at_ aB with
  |none=>(([],60),f)
  |some p =>
   let r:=NP.bQ f.c p.block p.aB
   if r.1.2≠0 then (([],r.1.2),f.aW r.2)
   else
    let t:=TP.read r.1.1
    if t.2.2≠0 then (([],21),f.aW r.2) else ((t.2.1,0),f.aW r.2)
def enough (g:Mg)(P:Nat):Bool :=
 let want:=left g+1
 let free:Int:=(aN 0 g.l:Nat)
 decide ((if bT g.jD P=free*P then want+1 else want)<=free)
def Ft.put (f:Ft)(aL:Int)(aB:Nat)(b:List Nat):Option (cB×Ft) :=
 if f.later.all (λx=> !x)&&enough f.g f.c.P then
  let r:=TP.write ⟨aL,aB,f.seq,f.aM⟩ b
  if r.2=0 then
   let q:=Mg.program r.1 f.c f.g
   if q.1.2.2=0 then some (⟨q.1.1,q.1.2.1⟩,{f with c:=q.2.1,g:=q.2.2,seq:=f.seq+1}) else none
  else none
 else none
def Ft.write (f:Ft)(aB:Nat)(b:List Nat):Option (Int×Ft) :=
 let e:=f.logical aB
 if e≠0 then some (e,f)
 else if b.length≠f.c.S then some (1,f)
 else if f.shut then some (41,f)
 else if MP.has f.now aB=false/\f.cap<=f.used then some (40,f)
 else match f.put 1 aB b with
  |none=>none
  |some (p,f1) =>
   let g:=match MP.get f1.now aB with
    |some old=>(f1.g.drop old.block).2
    |none=>f1.g
   some (0,{f1 with g:=g,now:=MP.put f1.now aB p,gone:=MP.del f1.gone aB})
def Ft.drop (f:Ft)(aB:Nat):Int×Ft :=
 let e:=f.logical aB
 if e≠0 then (e,f)
 else
  let f1:=match MP.get f.now aB with
   |some p=>{f with g:=(f.g.drop p.block).2,now:=MP.del f.now aB}
   |none=>f
  match MP.get f1.bD aB with
  |some p=>(0,{f1 with gone:=MP.put f1.gone aB p})
  |none=>(0,f1)
def jJ (aC bad:Int)(text:List Nat):List Nat :=
 [(aC%256).toNat,(aC/256%256).toNat,(bad%256).toNat,(bad/256%256).toNat,0,0,0,0]++text
structure Sl where
 g:Mg
 bD:Mp cB
 gone:Mp cB
def Sl.take (s:Sl)(x:Int×cB):Sl :=
 ⟨(match MP.get s.bD x.1 with|some old=>(s.g.drop old.block).2|none=>s.g),MP.put s.bD x.1 x.2,MP.del s.gone x.1⟩
def Sl.strike (s:Sl)(x:Int×cB):Sl :=
 ⟨(s.g.drop ((MP.get s.bD x.1).getD default).block).2,MP.del s.bD x.1,s.gone⟩
def badTo (c:NP.bX):Nat->Int
 |0=>0
 |k+1=>badTo c k+(if NP.qO c k then 1 else 0)
def gX (c:NP.bX):Int:=badTo c c.B
structure Sn where
 tag:TP.Tag
 at_:cB
instance:Inhabited Sn:=⟨⟨default,default⟩⟩
end FP
open RowKit
def Loose (aA:Nat)(w:acL)(n:Nat):Prop:=aA<=n/\∀t cur,aD w n t cur->qQ t=false
variable{F:Nat->Prop}{aA:Nat}{w w':acL}{k m:Nat}{M:dA}{g:Nat}
def bY {t t':TypeId}{cs cs':Array acK}(h:aD w g t cs)(h':aD w g t' cs'):t'=t:=by
 unfold aD at h h';rw[h]at h';injection h' with h';injection h' with _ h';exact h'.symm
variable{n:Nat}
def Mine.loose (h:Mine aA w n):Loose aA w n:=by
 obtain⟨h1,t,cur,ht,hb⟩:=h;exact⟨h1,λt' cur' hb'=>by rw[bY hb hb'];exact ht⟩
def Loose.blk {t:TypeId}{cs:Array acK}(hb:aA<=n)(h:aD w n t cs)(ht:qQ t=false:=by decide):Loose aA w n:=⟨hb,λt' cur' hb'=>by rw[bY h hb'];exact ht⟩
variable{α:Type}{K:IntKind}
def Loose.map {enc:α->acK}{m:Mp α}(hb:aA<=n)(h:bz w n K enc m):Loose aA w n:=⟨hb,λ_ _ hb'=>(h.dM hb' rfl).elim⟩
def Safe.no' {t:TypeId}{b:Nat}(h:Safe t aA w b)(m:Loose aA w b)(ht:qQ t=true:=by decide):False:=by
 rcases h with h|⟨cur',hb'⟩;have:=m.1;omega;rw[m.2 _ _ hb']at ht;cases ht
def Safe.fD {t:TypeId}{b:Nat}(h:Safe t aA w b)(q:aP F w w')(hF:∀k,F k->Loose aA w k)(ht:qQ t=true:=by decide):Safe t aA w' b:=by
 rcases h with h|⟨cur,hb⟩;exact ack h;exact acm ⟨cur,hb.aJ q (λe=>Safe.no' (t:=t) (acm ⟨cur,hb⟩) (hF b e) ht)⟩
variable{a:Option Addr}
def dx.fD {l:List Nat}(h:dx aA w a l)(q:aP F w w')(hF:∀k,F k->Loose aA w k):dx aA w' a l:=by
 rcases h.safe with rfl|⟨b,o,rfl,hs⟩;exact⟨bE.nil _ _,ack rfl⟩;refine⟨⟨h.row.small,?_⟩,acm ⟨b,o,rfl,hs.fD q hF⟩⟩;rcases h.row.at_ with h0|⟨b',o',he,h1⟩;exact ack h0;injection he with he;injection he with hb ho;subst hb ho;exact acm ⟨b,o,rfl,λi hi=>q.cell (h1 i hi) (λe=>hs.no' (hF b e))⟩
def sD.ok.fD {p:sD}(h:p.ok aA w)(q:aP F w w')(hF:∀k,F k->Loose aA w k):p.ok aA w':=⟨h.row.fD q hF,h.len,h.cap,h.nil⟩
def uM.fD {fs:List tY}(h:uM aA w a fs)(q:aP F w w')(hF:∀k,F k->Loose aA w k):uM aA w' a fs:=by
 refine⟨?_,λf hf=>⟨(h.data f hf).1.fD q hF,(h.data f hf).2⟩,h.len⟩;rcases h.at_ with h0|⟨b,o,rfl,hs,h1⟩;exact ack h0;exact acm ⟨b,o,rfl,hs.fD q hF,λi hi j u hu=>q.cell (h1 i hi j u hu) (λe=>hs.no' (hF b e))⟩
def aT.fD (h:aT aA w k M)(q:aP F w w')(hF:∀n,F n->Loose aA w n)(hn:∀n,M.foot k n->¬F n):aT aA w' k M :=
 ⟨h.aW.aJ q (hn _ (ack rfl)),h.blocks.aJ q (hn _ (acm (ack rfl))),λx hx=>(h.pages x hx).aJ q (hn _ (acm (acm (List.mem_map_of_mem hx)))),h.nodup,
  λx hx p hp=>(h.rows x hx p hp).fD q hF,h.faults.fD q hF,h.low⟩
section
open mgr
variable{G:iL}
def mgr.Held.fD (h:Held aA w m G M)(q:aP F w w')(hF:∀n,F n->Loose aA w n)(hn:∀n,foot1 m G M n->¬F n):Held aA w' m G M :=
 ⟨h.mgr.aJ q (λn e=>hn n (ack e)),h.aW.fD q hF (λn e=>hn n (acm e))⟩
def mgr.Held.type (h:Held aA w m G M)(hn:foot1 m G M n):∃t cs,aD w n t cs/\(t=191\/t=193\/t=144\/t=140\/t=23):=by
 rcases hn with (rfl|rfl)|(rfl|rfl|hn);exact⟨_,_,h.mgr.mgr,ack rfl⟩;obtain⟨cur,hb,_⟩:=h.mgr.row.blk;exact⟨_,_,hb,acm (ack rfl)⟩;exact⟨_,_,h.aW.aW,acm (acm (ack rfl))⟩;obtain⟨cur,hb,_⟩:=h.aW.blocks.blk;exact⟨_,_,hb,acm (acm (acm (ack rfl)))⟩;obtain⟨x,hx,rfl⟩:=List.mem_map.1 hn;obtain⟨cur,hb,_⟩:=(h.aW.pages x hx).blk;exact⟨_,_,hb,acm (acm (acm (acm rfl)))⟩
end
namespace ft
open mgr
abbrev dz (p:FP.cB):acK:=adA #[vi p.block,vi p.aB]
structure dm where
 m:Nat
 G:iL
 M:dA
 aC:Int
 bad:Int
 ta:Option Addr
 tx:List Nat
 tc:Nat
 bs:Nat
 bn:Nat
 bg:Nat
 S:Mp FP.cB
 N:Mp FP.cB
 D:Mp FP.cB
 seq:Nat
 aM:Nat
 lg:Nat
 lc:Nat
 later:List Bool
 over:Bool
abbrev dm.cs (X:dm):Array acK:=#[ptr X.G.k,ptr X.m,vi X.aC,vi X.bad,aco X.ta X.tx.length X.tc,.map (some X.bs),.map (some X.bn),.map (some X.bg),vq X.seq,vq X.aM,aco (some ⟨X.lg,0,none⟩) X.later.length X.lc,acg X.over]
abbrev dm.view (X:dm):FP.Ft:=⟨X.M.view,X.G.view,X.aC,X.bad,X.tx,X.S,X.N,X.D,X.seq,X.aM,X.later,X.over⟩
def dm.foot (X:dm)(f n:Nat):Prop:=n=f\/n=X.bs\/n=X.bn\/n=X.bg\/n=X.lg\/foot1 X.m X.G X.M n
structure bP (aA:Nat)(w:acL)(f:Nat)(X:dm):Prop where
 obj:aD w f 153 X.cs
 held:Held aA w X.m X.G X.M
 text:dx aA w X.ta X.tx
 lC:X.tx.length<=X.tc/\X.tc<=maxLen
 bD:bz w X.bs .u32 dz X.S
 now:bz w X.bn .u32 dz X.N
 gone:bz w X.bg .u32 dz X.D
 later:kY w 4 1 X.lg X.later.length X.lc (X.later.map acg)
 low:aA<=f/\aA<=X.bs/\aA<=X.bn/\aA<=X.bg/\aA<=X.lg
 ne:X.bs≠X.bn/\X.bs≠X.bg/\X.bn≠X.bg
structure aQ (aA:Nat)(w:acL)(f:Nat)(X:dm)(w':acL)(X':dm):Prop where
 at_:bP aA w' f X'
 aJ:aP (X.foot f) w w'
 foot:∀n,X'.foot f n->X.foot f n\/w.heap.size<=n
 key:X'.G.k=X.G.k/\X'.m=X.m
variable{w'':acL}{f:Nat}{X X' X'':dm}
def bP.loose (h:bP aA w f X):∀n,X.foot f n->Loose aA w n:=by
 intro n hn;rcases hn with rfl|rfl|rfl|rfl|rfl|hn;exact Loose.blk h.low.1 h.obj;exact Loose.map h.low.2.1 h.bD;exact Loose.map h.low.2.2.1 h.now;exact Loose.map h.low.2.2.2.1 h.gone;obtain⟨cur,hb,_⟩:=h.later.blk;exact Loose.blk h.low.2.2.2.2 hb;exact(h.held.mine n hn).loose
def bP.lt (h:bP aA w f X):∀n,X.foot f n->n<w.heap.size:=by
 intro n hn;rcases hn with rfl|rfl|rfl|rfl|rfl|hn;exact h.obj.lt;exact h.bD.lt;exact h.now.lt;exact h.gone.lt;exact h.later.lt;exact h.held.lt n hn
def bP.nQ (h:bP aA w f X):f≠X.bs/\f≠X.bn/\f≠X.bg/\f≠X.lg/\¬foot1 X.m X.G X.M f:=by
 refine⟨λe=>h.bD.dM h.obj e.symm,λe=>h.now.dM h.obj e.symm,λe=>h.gone.dM h.obj e.symm,λe=>h.later.dM h.obj ag e.symm,λe=>?_⟩;obtain⟨t,cs,hb,ht⟩:=h.held.type e;have:=bY hb h.obj;rcases ht with ht|ht|ht|ht|ht<;>rw[ht]at this<;>exact absurd this ag
def bP.gY {b:Nat}{enc:α->acK}{m:Mp α}(h:bP aA w f X)(hm:bz w b K enc m):b≠f/\b≠X.lg/\¬foot1 X.m X.G X.M b:=by
 refine⟨hm.dM h.obj,?_,λe=>?_⟩;obtain⟨cur,hb,_⟩:=h.later.blk;exact hm.dM hb;obtain⟨t,cs,hb,ht⟩:=h.held.type e;exact hm.dM hb rfl
def bP.Im (h:bP aA w f X):¬foot1 X.m X.G X.M X.lg:=by
 intro e;obtain⟨t,cs,hb,ht⟩:=h.held.type e;obtain⟨cur,hb',_⟩:=h.later.blk;have:=bY hb hb';rcases ht with ht|ht|ht|ht|ht<;>rw[ht]at this<;>exact absurd this ag
def bP.aJ (h:bP aA w f X)(q:aP F w w')(hF:∀n,F n->Loose aA w n)(hn:∀n,X.foot f n->¬F n):bP aA w' f X :=
 ⟨h.obj.aJ q (hn _ (ack rfl)),h.held.fD q hF (λn e=>hn n (acm (acm (acm (acm (acm e)))))),h.text.fD q hF,h.lC,h.bD.aJ q (hn _ (acm (ack rfl))),h.now.aJ q (hn _ (acm (acm (ack rfl)))),
  h.gone.aJ q (hn _ (acm (acm (acm (ack rfl))))),h.later.aJ q (hn _ (acm (acm (acm (acm (ack rfl)))))),h.low,h.ne⟩
def bP.old (h:bP aA w f X)(q:acN w.heap.size w w'):bP aA w' f X:=h.aJ (F:=λ_=>False) (aP.of_below q) (λ_ e=>e.elim) (λ_ _ e=>e)
def aQ.refl (h:bP aA w f X):aQ aA w f X w X:=⟨h,aP.refl _ _,λ_ e=>ack e,rfl,rfl⟩
def aQ.trans (h:aQ aA w f X w' X')(q:aQ aA w' f X' w'' X''):aQ aA w f X w'' X'':=by
 refine⟨q.at_,h.aJ.trans q.aJ λn hn e=>?_,λn hn=>?_,q.key.1.trans h.key.1,q.key.2.trans h.key.2⟩;rcases h.foot n e with h1|h1;exact h1;omega;rcases q.foot n hn with h1|h1;exact h.foot n h1;exact acm (abX h.aJ.size h1)
def aQ.old (h:aQ aA w f X w' X')(q:acN w'.heap.size w' w''):aQ aA w f X w'' X':=⟨h.at_.old q,h.aJ.below q,h.foot,h.key⟩
def aQ.aX (h:bP aA w f X)(q:acN w.heap.size w w'):aQ aA w f X w' X:=(aQ.refl h).old q
def aQ.size (h:aQ aA w f X w' X'):w.heap.size<=w'.heap.size:=h.aJ.size
variable{g':Mg}{M':dA}
def bP.goes (h:bP aA w f X)(q:bJ aA w X.m X.G X.M w' g' M'):aQ aA w f X w' {X with G:=X.G.lay g',M:=M'}:=by
 have hm:∀n,foot1 X.m X.G X.M n->Loose aA w n:=λn e=>(h.held.mine n e).loose
 have hf:∀n,foot1 X.m (X.G.lay g') M' n->foot1 X.m X.G X.M n\/w.heap.size<=n:=by
  intro n e;rcases e with e|e;exact ack (ack e);rcases q.foot n e with e|e;exact ack (acm e);exact acm e
 refine⟨⟨h.obj.aJ q.aJ h.nQ.2.2.2.2,q.at_,h.text.fD q.aJ hm,h.lC,h.bD.aJ q.aJ (h.gY h.bD).2.2,h.now.aJ q.aJ (h.gY h.now).2.2,h.gone.aJ q.aJ (h.gY h.gone).2.2,h.later.aJ q.aJ h.Im,h.low,h.ne⟩,
  q.aJ.mono (λn _ e=>acm (acm (acm (acm (acm e))))),?_,rfl,rfl⟩
 intro n e;rcases e with e|e|e|e|e|e;exact ack (ack e);exact ack (acm (ack e));exact ack (acm (acm (ack e)));exact ack (acm (acm (acm (ack e))));exact ack (acm (acm (acm (acm (ack e)))));rcases hf n e with e|e;exact ack (acm (acm (acm (acm (acm e)))));exact acm e
def bP.jG (h:bP aA w f X)(q:Goes aA w X.G.k X.M w' M'):aQ aA w f X w' {X with M:=M'}:=h.goes (h.held.jG q)
def bP.MK (h:bP aA w f X){S':Mp FP.cB}(g:w.grownBy w' (some X.bs))(hm:bz w' X.bs .u32 dz S'):aQ aA w f X w' {X with S:=S'}:=by
 have q:aP (λn=>n=X.bs) w w':=(aP.refl _ w).grown g (λk e=>by injection e with e;exact ack e.symm);have hl:∀n,n=X.bs->Loose aA w n:=λn e=>h.loose n (acm (ack e))
 exact⟨⟨h.obj.aJ q (h.gY h.bD).1.symm,h.held.fD q hl (λn e e2=>(h.gY h.bD).2.2 (e2▸e)),h.text.fD q hl,h.lC,hm,h.now.aJ q h.ne.1.symm,h.gone.aJ q h.ne.2.1.symm,h.later.aJ q (h.gY h.bD).2.1.symm,h.low,h.ne⟩,
  q.mono (λn _ e=>acm (ack e)),λn e=>ack e,rfl,rfl⟩
def bP.Fp (h:bP aA w f X){N':Mp FP.cB}(g:w.grownBy w' (some X.bn))(hm:bz w' X.bn .u32 dz N'):aQ aA w f X w' {X with N:=N'}:=by
 have q:aP (λn=>n=X.bn) w w':=(aP.refl _ w).grown g (λk e=>by injection e with e;exact ack e.symm);have hl:∀n,n=X.bn->Loose aA w n:=λn e=>h.loose n (acm (acm (ack e)))
 exact⟨⟨h.obj.aJ q (h.gY h.now).1.symm,h.held.fD q hl (λn e e2=>(h.gY h.now).2.2 (e2▸e)),h.text.fD q hl,h.lC,h.bD.aJ q h.ne.1,hm,h.gone.aJ q h.ne.2.2.symm,h.later.aJ q (h.gY h.now).2.1.symm,h.low,h.ne⟩,
  q.mono (λn _ e=>acm (acm (ack e))),λn e=>ack e,rfl,rfl⟩
def bP.zM (h:bP aA w f X){D':Mp FP.cB}(g:w.grownBy w' (some X.bg))(hm:bz w' X.bg .u32 dz D'):aQ aA w f X w' {X with D:=D'}:=by
 have q:aP (λn=>n=X.bg) w w':=(aP.refl _ w).grown g (λk e=>by injection e with e;exact ack e.symm);have hl:∀n,n=X.bg->Loose aA w n:=λn e=>h.loose n (acm (acm (acm (ack e))))
 exact⟨⟨h.obj.aJ q (h.gY h.gone).1.symm,h.held.fD q hl (λn e e2=>(h.gY h.gone).2.2 (e2▸e)),h.text.fD q hl,h.lC,h.bD.aJ q h.ne.2.1,h.now.aJ q h.ne.2.2,hm,h.later.aJ q (h.gY h.gone).2.1.symm,h.low,h.ne⟩,
  q.mono (λn _ e=>acm (acm (acm (ack e)))),λn e=>ack e,rfl,rfl⟩
def bP.fields (h:bP aA w f X)(q:aP (λn=>n=f) w w')(hb:aD w' f 153 X'.cs)(h1:X'.m=X.m/\X'.G=X.G/\X'.M=X.M)(h2:dx aA w' X'.ta X'.tx/\X'.tx.length<=X'.tc/\X'.tc<=maxLen)
  (h3:X'.bs=X.bs/\X'.S=X.S) (h4:bz w' X'.bn .u32 dz X'.N/\(X'.bn=X.bn\/w.heap.size<=X'.bn)) (h5:bz w' X'.bg .u32 dz X'.D/\(X'.bg=X.bg\/w.heap.size<=X'.bg)) (h6:X'.lg=X.lg/\X'.lc=X.lc/\X'.later=X.later) (h7:X'.bn≠X'.bg)
  (hbase:aA<=w.heap.size):aQ aA w f X w' X':=by
 have hl:∀n,n=f->Loose aA w n:=λn e=>h.loose n (ack e)
 have hlt:=h.bD.lt;refine⟨⟨hb,?_,h2.1,h2.2,?_,h4.1,h5.1,?_,?_,?_⟩,q.mono (λn _ e=>ack e),?_,by rw[h1.2.1],h1.1⟩;rw[h1.1,h1.2.1,h1.2.2];exact h.held.fD q hl (λn e e2=>h.nQ.2.2.2.2 (e2▸e));rw[h3.1,h3.2];exact h.bD.aJ q h.nQ.1.symm;rw[h6.1,h6.2.1,h6.2.2];exact h.later.aJ q h.nQ.2.2.2.1.symm;rw[h3.1,h6.1];refine⟨h.low.1,h.low.2.1,?_,?_,h.low.2.2.2.2⟩;rcases h4.2 with e|e;rw[e];exact h.low.2.2.1;omega;rcases h5.2 with e|e;rw[e];exact h.low.2.2.2.1;omega;rw[h3.1];refine⟨?_,?_,h7⟩;rcases h4.2 with e|e;rw[e];exact h.ne.1;omega;rcases h5.2 with e|e;rw[e];exact h.ne.2.1
 omega;intro n e;unfold dm.foot at e;rw[h1.1,h1.2.1,h1.2.2,h3.1,h6.1]at e;rcases e with e|e|e|e|e|e;exact ack (ack e);exact ack (acm (ack e));rcases h4.2 with e2|e2;exact ack (acm (acm (ack (e.trans e2))));exact acm aa;rcases h5.2 with e2|e2;exact ack (acm (acm (acm (ack (e.trans e2)))));exact acm aa;exact ack (acm (acm (acm (acm (ack e)))));exact ack (acm (acm (acm (acm (acm e)))))
def bP.field (h:bP aA w f X)(j:Nat)(v:acK)(hc:X'.cs=X.cs.setIfInBounds j v)(h1:X'.m=X.m/\X'.G=X.G/\X'.M=X.M)(h2:dx aA w X'.ta X'.tx/\X'.tx.length<=X'.tc/\X'.tc<=maxLen)
  (h3:X'.bs=X.bs/\X'.S=X.S) (h4:X'.bn=X.bn/\X'.N=X.N) (h5:X'.bg=X.bg/\X'.D=X.D) (h6:X'.lg=X.lg/\X'.lc=X.lc/\X'.later=X.later) (hbase:aA<=w.heap.size):aQ aA w f X (w.setCell ⟨f,j,none⟩ v) X':=by
 have q:aP (λn=>n=f) w (w.setCell ⟨f,j,none⟩ v):=aP.set (F:=λn=>n=f) w (p:=⟨f,j,none⟩) rfl v;have hl:∀n,n=f->Loose aA w n:=λn e=>h.loose n (ack e)
 refine h.fields q (by rw[hc];exact h.obj.bB j v) h1 ⟨h2.1.fD q hl,h2.2⟩ h3 ?_ ?_ h6 ?_ hbase;rw[h4.1,h4.2];exact⟨h.now.aJ q h.nQ.2.1.symm,ack rfl⟩;rw[h5.1,h5.2];exact⟨h.gone.aJ q h.nQ.2.2.1.symm,ack rfl⟩;rw[h4.1,h5.1];exact h.ne.2.2
def bP.cells (h:bP aA w f X):w.cell? ⟨f,0,none⟩=some (ptr X.G.k)/\w.cell? ⟨f,1,none⟩=some (ptr X.m)/\w.cell? ⟨f,2,none⟩=some (vi X.aC)/\w.cell? ⟨f,3,none⟩=some (vi X.bad)/\w.cell? ⟨f,4,none⟩=some (aco X.ta X.tx.length X.tc) /\
  w.cell? ⟨f,5,none⟩=some (.map (some X.bs))/\w.cell? ⟨f,6,none⟩=some (.map (some X.bn))/\w.cell? ⟨f,7,none⟩=some (.map (some X.bg))/\w.cell? ⟨f,8,none⟩=some (vq X.seq)/\w.cell? ⟨f,9,none⟩=some (vq X.aM) /\
  w.cell? ⟨f,10,none⟩=some (aco (some ⟨X.lg,0,none⟩) X.later.length X.lc)/\w.cell? ⟨f,11,none⟩=some (acg X.over) :=
 ⟨h.obj.cell 0,h.obj.cell 1,h.obj.cell 2,h.obj.cell 3,h.obj.cell 4,h.obj.cell 5,h.obj.cell 6,h.obj.cell 7,h.obj.cell 8,h.obj.cell 9,h.obj.cell 10,h.obj.cell 11⟩
structure JU (aA:Nat)(w:acL)(f:Nat)(X:dm)(w':acL)(X':dm):Prop where
 goes:aQ aA w f X w' X'
 aW:Goes aA w X.G.k X.M w' X'.M
def JU.trans (h:JU aA w f X w' X')(q:JU aA w' f X' w'' X''):JU aA w f X w'' X'':=⟨h.goes.trans q.goes,h.aW.trans (by have:=q.aW;rw[h.goes.key.1]at this;exact this)⟩
def JU.old (h:JU aA w f X w' X')(q:acN w'.heap.size w' w''):JU aA w f X w'' X':=⟨h.goes.old q,h.aW.old q⟩
def JU.aX (h:bP aA w f X)(q:acN w.heap.size w w'):JU aA w f X w' X:=⟨aQ.aX h q,Goes.aX h.held.aW q⟩
def bP.Sd (h:bP aA w f X)(q:Goes aA w X.G.k X.M w' M'):JU aA w f X w' {X with M:=M'}:=⟨h.jG q,q⟩
open RowKit
def Fx:∀(m:Mp FP.cB) (a b:Int),a<=b->m.Pairwise (λx y=>x.1<y.1)->(∀x∈m,a<=x.1/\x.1<b)->(m.length:Int)<=b-a
 |[],a,b,h,_,_=>by simp;omega
 |x::m,a,b,h,hp,hb=>by
  obtain⟨h1,h2⟩:=List.pairwise_cons.1 hp
  have hx:=hb x ai
  have:=Fx m (x.1+1) b aa h2 (λy hy=>⟨by have:=h1 y hy;omega,(hb y (adw _ hy)).2⟩)
  simp only[List.length_cons]
  omega
def Low (m:Mp FP.cB):Prop:=MP.Ok m/\∀x∈m,0<=x.1/\x.1<8192
def Low.len {m:Mp FP.cB}(h:Low m):m.length<=8192:=by have:=Fx m 0 8192 ag h.1 h.2;omega
def Low.put {m:Mp FP.cB}(h:Low m){k:Int}(hk:0<=k/\k<8192)(v:FP.cB):Low (MP.put m k v):=⟨MP.iJ h.1 _ _,λx hx=>by
 rcases MP.Mx hx with rfl|hx
 exact hk
 exact h.2 x hx⟩
def Low.del {m:Mp FP.cB}(h:Low m)(k:Int):Low (MP.del m k):=⟨MP.jc h.1 _,λx hx=>h.2 x ((MP.EP m k).subset hx)⟩
def Low.nil:Low []:=⟨MP.EO,by simp⟩
structure Fit (F:FP.Ft):Prop where
 good:gW F.c
 lL:F.g.ok F.c
 res:0<=F.aC/\F.aC<=65535/\0<=F.bad/\F.bad<=65535
 qE:0<=F.g.aC/\F.g.aC<=65535/\0<=F.g.bad/\F.g.bad<=65535
 slow:Low F.bD
 oG:Low F.now
 kQ:Low F.gone
 rz:F.later.length=F.c.B
 lC:F.text.length<=1000
def dm.Fit (X:dm):Prop:=ft.Fit X.view
def dm.Fit.good (h:X.Fit):gW X.M.view:=ft.Fit.good h
def dm.Fit.lL (h:X.Fit):X.G.view.ok X.M.view:=ft.Fit.lL h
def dm.Fit.res (h:X.Fit):0<=X.aC/\X.aC<=65535/\0<=X.bad/\X.bad<=65535:=ft.Fit.res h
def dm.Fit.qE (h:X.Fit):0<=X.G.aC/\X.G.aC<=65535/\0<=X.G.bad/\X.G.bad<=65535:=ft.Fit.qE h
def dm.Fit.ahl (h:X.Fit):X.S.length<=100000:=abX (ft.Fit.slow h).len ag
def dm.Fit.ahm (h:X.Fit):X.N.length<=100000:=abX (ft.Fit.oG h).len ag
def dm.Fit.rz (h:X.Fit):X.later.length=X.M.B:=ft.Fit.rz h
def dm.Fit.lC (h:X.Fit):X.tx.length<=1000:=ft.Fit.lC h
def dm.Fit.bI (h:X.Fit):8<=X.M.B/\X.M.B<=128/\4<=X.M.P/\X.M.P<=32/\64<=X.M.S:=sM h.good.ok
def dm.Fit.size (h:X.Fit):X.M.S<=512:=by
 have h1:=h.good.ok.right;have h2:NP.bH X.M.B X.M.P X.M.S=true:=h1;unfold NP.bH at h2;simp only[ac8,Bool.or_eq_true,beq_iff_eq,decide_eq_true_eq]at h2;omega
def dm.Fit.WS (h:X.Fit):X.G.l.length=X.M.B:=h.lL.len
def aaG (x y z:Int)(w:acL):(Instr.field 103 (adA #[vi x,vi y,vi z]) 0).run prog w=.ok (vi x) w:=ah
def aaH (x y z:Int)(w:acL):(Instr.field 103 (adA #[vi x,vi y,vi z]) 1).run prog w=.ok (vi y) w:=ah
def SK (x y z:Int)(w:acL):(Instr.field 103 (adA #[vi x,vi y,vi z]) 2).run prog w=.ok (vi z) w:=ah
def vR (w:acL):(zeroValue 165).run prog w=.ok (adA #[vi 0,vi 0]) w:=ah
def Iy (h:bP aA w f X):ac4 prog 112 #[ptr f] w λe w'=>e=ab4 (vi X.M.S)/\acN w.heap.size w w':=by
 obtain⟨c0,c1,c2,c3,c4,c5,c6,c7,c8,c9,c10,c11⟩:=h.cells;have H:=az h;clear h c1 c2 c3 c4 c5 c6 c7 c8 c9 c10 c11;go_in;go_wp2_with fail;refine(iZ H.o.held.aW).mono ?_;rintro e w' ⟨rfl,hb⟩;have HB:=az hb;have hf:=SK;clear hb c0;go_wp2;go_ret;exact⟨rfl,HB.o⟩
def jM (B P S aC bad:Int)(w:acL)(h:0<=B/\B<=1000/\0<=aC/\aC<=70000/\0<=bad/\bad<=70000):ac4 prog 83 #[adA #[vi B,vi P,vi S],vi aC,vi bad] w λe w'=>e=ab4 (vi (B-bad-aC-1))/\acN w.heap.size w w':=by
 have HB:Hid (acN w.heap.size w (w.alloc (ach #[vi B,vi P,vi S] 103))):=az ax;have q1:adk.wrap (B-bad)=B-bad:=adl _ aa;have q2:adk.wrap (B-bad-aC)=B-bad-aC:=adl _ aa;have q3:adk.wrap (B-bad-aC-1)=B-bad-aC-1:=adl _ aa;go_in;go_wp2;go_ret;exact⟨rfl,HB.o⟩
def pF (h:bP aA w f X)(hx:X.Fit):ac4 prog 89 #[ptr f] w λe w'=>e=ab4 (vi X.view.cap)/\acN w.heap.size w w':=by
 obtain⟨c0,c1,c2,c3,c4,c5,c6,c7,c8,c9,c10,c11⟩:=h.cells;have H:=az h;have hd:=hx.bI;have hr:=hx.res;have HV:Hid (X.view.cap=((X.M.B:Int)-X.bad-X.aC-1)*X.M.P-2):=az rfl;have hm1:((X.M.B:Int)-X.bad-X.aC-1)*X.M.P<=128*32:=by
  have h1:((X.M.B:Int)-X.bad-X.aC-1)<=128:=aa;by_cases h0:0<=((X.M.B:Int)-X.bad-X.aC-1);exact Int.mul_le_mul h1 aa aa aa;have:=Int.mul_nonpos_of_nonpos_of_nonneg (a:=((X.M.B:Int)-X.bad-X.aC-1)) (b:=(X.M.P:Int)) aa aa;omega
 have hm2: -(200000*32)<=((X.M.B:Int)-X.bad-X.aC-1)*X.M.P:=by
  have h1: -200000<=((X.M.B:Int)-X.bad-X.aC-1):=aa;have h2: -200000*(X.M.P:Int)<=((X.M.B:Int)-X.bad-X.aC-1)*X.M.P:=Int.mul_le_mul_of_nonneg_right h1 aa;omega
 have WT:Hid (∀n:Sub _,ac4 prog 83 #[adA #[vi X.M.B,vi X.M.P,vi X.M.S],vi X.aC,vi X.bad] n.w λe w'=>e=ab4 (vi ((X.M.B:Int)-X.bad-X.aC-1))/\acN n.w.heap.size n.w w') :=
  az (λn:Sub w=>jM _ _ _ _ _ n.w aa)
 clear h c1 c4 c5 c6 c7 c8 c9 c10 c11 WT;go_in;go_wp2_with fail;refine(iZ H.o.held.aW).mono ?_;rintro e w1 ⟨rfl,hb⟩;have HB:=az hb;have c2:=cell_below c2 hb;have c3:=cell_below c3 hb;clear hb c0;have HB2:Hid (acN w.heap.size w (w1.alloc (ach #[vi X.M.B,vi X.M.P,vi X.M.S] 103))):=az (HB.o.alloc HB.o.size _);have FG:=aD.new w1 103 #[vi X.M.B,vi X.M.P,vi X.M.S];have c2:=cell_below c2 (ak.alloc aj (ach #[vi X.M.B,vi X.M.P,vi X.M.S] 103));have c3:=cell_below c3 (ak.alloc aj (ach #[vi X.M.B,vi X.M.P,vi X.M.S] 103));have g0:=FG.cell 0
 have g1:=FG.cell 1;have g2:=FG.cell 2;simp only[List.getElem?_toArray,List.getElem?_cons_zero,List.getElem?_cons_succ]at g0 g1 g2;clear FG;go_upto_region 4 with fail;generalize w1.alloc (ach #[vi X.M.B,vi X.M.P,vi X.M.S] 103)=w2 at*;have WT:Hid (∀n:Sub w2,ac4 prog 83 #[adA #[vi X.M.B,vi X.M.P,vi X.M.S],vi X.aC,vi X.bad] n.w λe w'=>e=ab4 (vi ((X.M.B:Int)-X.bad-X.aC-1))/\acN n.w.heap.size n.w w') :=
  az (λn=>jM _ _ _ _ _ n.w aa)
 generalize WU:(X.M.B:Int)-X.bad-X.aC-1=db at*;have q1:adk.wrap (db*X.M.P)=db*X.M.P:=adl _ aa;have q2:adk.wrap (db*X.M.P-2)=db*X.M.P-2:=adl _ aa;clear WU;have c2:=Sub.cell c2;have c3:=Sub.cell c3;have g0:=Sub.cell g0;have g1:=Sub.cell g1;have g2:=Sub.cell g2;refine aZ ah ah ?_;repeat (go_big_quiet_step (exact fM (WT.o _)))
 refine adE ?_;rintro _ ⟨nq,rfl⟩;have Ar:=az (HB2.o.trans (nq.below.mono HB2.o.size));go_wp2;go_ret;exact⟨bS HV.o.symm,Ar.o⟩
def SL (h:bP aA w f X)(hx:X.Fit):ac4 prog 114 #[ptr f] w λe w'=>e=.returned (vi X.view.used)/\acN w.heap.size w w':=by
 obtain⟨c0,c1,c2,c3,c4,c5,c6,c7,c8,c9,c10,c11⟩:=h.cells;have hs:=hx.ahl;have hn:=hx.ahm;have l1:∀n:Sub w,(Builtin.len_ #[149] 3 #[.map (some X.bs)]).run prog n.w=.ok (goInt X.S.length) n.w:=λn=>(h.bD.old n.below).len underlying149 _;have l2:∀n:Sub w,(Builtin.len_ #[149] 3 #[.map (some X.bn)]).run prog n.w=.ok (goInt X.N.length) n.w:=λn=>(h.now.old n.below).len underlying149 _;have q:adk.wrap ((X.S.length:Int)+X.N.length)=(X.S.length:Int)+X.N.length:=adl _ aa;clear h c0 c1 c2 c3 c4 c7 c8 c9 c10 c11;go_in;go_upto_region 3 with fail;have c5:=Sub.cell c5;have c6:=Sub.cell c6
 refine aZ ah ah ?_;repeat (go_big_quiet_step (fail))
 refine adE ?_;rintro _ ⟨nq,rfl⟩;have Ar:=az nq.below;go_wp2;go_ret;exact⟨rfl,Ar.o⟩
def vS (h:bP aA w f X)(hx:X.Fit):ac4 prog 113 #[ptr f] w λe w'=>e=ab4 (acg X.view.shut)/\acN w.heap.size w w':=by
 obtain⟨c0,c1,c2,c3,c4,c5,c6,c7,c8,c9,c10,c11⟩:=h.cells;have H:=az h;have hg:=hx.qE;have hcl:=oh 4 X.G.l;have hgl:=hx.WS;have hd:=hx.bI;have hw:wrap64 (X.G.aC-wrap64 ((aN 4 X.G.l:Nat)-X.G.bad))=FP.left X.G.view:=by
  unfold FP.left wrap64;dsimp only[iL.view];omega
 have HW:=az hw;have HV:Hid (X.view.shut=(X.over||decide (FP.left X.G.view<0))):=az rfl;rw[HV.o];clear h c0 c2 c3 c4 c5 c6 c7 c8 c9 c10 hw hcl hgl hd hg HV;go_in;generalize X.over=ov at*;cases ov
 ·go_wp2_with fail;refine(Hy H.o.held.mgr).mono ?_;rw[HW.o];rintro e w1 ⟨rfl,hb⟩;have HB:=az hb;clear hb;go_wp2;go_ret;exact⟨ai,HB.o⟩
 go_wp2;go_ret;exact⟨rfl,ak⟩
def ou (h:bP aA w f X):ac4 prog 116 #[ptr f] w λe w'=>e=ab4 (vi X.view.ready)/\w'=w:=by
 obtain⟨c0,c1,c2,c3,c4,c5,c6,c7,c8,c9,c10,c11⟩:=h.cells;have HU:=az (ET h.held.aW);have HV:Hid (X.view.ready=if X.M.down then 4 else 0):=az rfl;rw[HV.o];clear h c1 c2 c3 c4 c5 c6 c7 c8 c9 c10 c11 HV;generalize X.M.down=dn at*;cases dn
 ·go_in;go_wp2_with fail;refine HU.o.mono ?_;rintro e w' ⟨rfl,rfl⟩;go_wp2;go_ret;exact⟨rfl,rfl⟩
 go_in;go_wp2_with fail;refine HU.o.mono ?_;rintro e w' ⟨rfl,rfl⟩;go_wp2;go_ret;exact⟨rfl,rfl⟩
variable{a:Int}
def Fy {b:Int}(h:a=b)(hb:acN w.heap.size w w'):Ending.returned (vi a)=ab4 (vi b)/\acN w.heap.size w w':=⟨by rw[h],hb⟩
def rA (h:bP aA w f X)(hx:X.Fit)(aB:Nat)(hp:aB<4294967296):ac4 prog 99 #[ptr f,vw aB] w λe w'=>e=ab4 (vi (X.view.logical aB))/\acN w.heap.size w w':=by
 have bK:=az (ou h);have JS:=az (pF h hx);have HV:Hid (X.view.logical aB=if X.M.down then 4 else if aB=0\/X.view.cap<=aB then 1 else 0):=az rfl;have HR:Hid (X.view.ready=if X.M.down then 4 else 0):=az rfl;rw[HV.o];rw[HR.o]at bK;clear h hx HV HR;generalize X.M.down=dn at*;generalize X.view.cap=cp at*;cases dn
 ·by_cases h0:aB=0
  ·subst h0;go_in;go_wp2_with fail;refine bK.o.mono ?_;rintro e w' ⟨rfl,rfl⟩;go_wp2;go_ret;exact Fy ai ak
  have h0':((aB:Int)==0)=false:=by simp;omega
  by_cases hc:cp<=aB
  ·have HT:Hid ((if aB=0\/cp<=aB then 1 else 0:Int)=1):=az (if_pos (acm hc));have hi:(if (false=true) then 4 else if aB=0\/cp<=aB then 1 else 0:Int)=1:=by rw[HT.o];rfl
   rw[hi];clear hi HT;go_in;go_wp2_with fail;refine bK.o.mono ?_;rintro e w' ⟨rfl,rfl⟩;go_wp2_with fail;refine JS.o.mono ?_;rintro e w1 ⟨rfl,hb⟩;have HB:=az hb;clear hb;go_wp2;go_ret;exact Fy rfl HB.o
  have HT:Hid ((if aB=0\/cp<=aB then 1 else 0:Int)=0):=az (if_neg aa);have hi:(if (false=true) then 4 else if aB=0\/cp<=aB then 1 else 0:Int)=0:=by rw[HT.o];rfl
  rw[hi];clear hi HT;go_in;go_wp2_with fail;refine bK.o.mono ?_;rintro e w' ⟨rfl,rfl⟩;go_wp2_with fail;refine JS.o.mono ?_;rintro e w1 ⟨rfl,hb⟩;have HB:=az hb;clear hb;go_wp2;go_ret;exact Fy rfl HB.o
 go_in;go_wp2_with fail;refine bK.o.mono ?_;rintro e w' ⟨rfl,rfl⟩;go_wp2;go_ret;exact Fy rfl ak
def SN (h:bP aA w f X)(hx:X.Fit):ac4 prog 90 #[ptr f] w λe w'=>∃v,e=ab4 v/\Own w' w.heap.size v X.tx/\acN w.heap.size w w':=by
 obtain⟨c0,c1,c2,c3,c4,c5,c6,c7,c8,c9,c10,c11⟩:=h.cells;have H:=az h;have hl:=hx.lC;clear h c0 c1 c2 c3 c5 c6 c7 c8 c9 c10 c11;go_in;go_wp2_with fail;refine(jr X.ta X.tx X.tc w H.o.text.row aa).mono ?_;rintro e w' ⟨v,rfl,ho,hb⟩;have HO:=az ho;have HB:=az hb;clear ho hb;go_wp2;go_ret;exact⟨_,rfl,HO.o,HB.o⟩
section
variable{b:Nat}{m:Mp FP.cB}
def mg (h:bz w b .u32 dz m){j:Int}{p:FP.cB}(hg:MP.get m j=some p):(abw 149 (.map (some b)) (.int .u32 j) true).run prog w=.ok (.tuple #[.agg #[vi p.block,vi p.aB],.bool true]) w:=by
 rw[h.sF underlying149 underlying118 (vR w) j,MP.has,hg];rfl
def mh (h:bz w b .u32 dz m){j:Int}(hg:MP.get m j=none):(abw 149 (.map (some b)) (.int .u32 j) true).run prog w=.ok (.tuple #[.agg #[vi 0,vi 0],.bool false]) w:=by
 rw[h.sF underlying149 underlying118 (vR w) j,MP.has,hg];rfl
end
variable{v0 v1:acK}
def sO {n:Bool}(hb:aD w' g 165 #[v0,v1])(tmps:Array acK)(h2:tmps[4]?=some (adj (some ⟨g,0,none⟩)))(h4:tmps[5]?=some (acg n)) :
  (results Tryz.f100 tmps).run prog w'=.ok (adg #[adA #[v0,v1],acg n]) w':=by
 have g0:w'.cell? ⟨g,0,none⟩=some v0:=hb.cell 0;have g1:w'.cell? ⟨g,1,none⟩=some v1:=hb.cell 1;simp only[results,results100];simp[go_sem,h2,h4,g0,g1]
variable{W:acL}{u0 u1:acK}
def vT (v0 v1:acK)(hb:aD W g 165 #[u0,u1])(hw:acN w.heap.size w W)(hg:w.heap.size<=g) :
  aD ((W.setCell ⟨g,0,none⟩ v0).setCell ⟨g,1,none⟩ v1) g 165 #[v0,v1]/\acN w.heap.size w ((W.setCell ⟨g,0,none⟩ v0).setCell ⟨g,1,none⟩ v1) :=
 ⟨(hb.bB 0 v0).bB 1 v1,(hw.setCell hg v0).setCell hg v1⟩
def bO (h:aD w g 165 #[v0,v1]):w.cell? ⟨g,0,none⟩=some v0/\w.cell? ⟨g,1,none⟩=some v1/\w.frozen? ⟨g,0,none⟩=false/\w.frozen? ⟨g,1,none⟩=false :=
 ⟨h.cell 0,h.cell 1,h.frozen 0,h.frozen 1⟩
abbrev atV (p:Option FP.cB):acK:=adg #[dz (p.getD default),acg p.isSome]
def pG (h:bP aA w f X)(aB:Nat):ac4 prog 100 #[ptr f,vw aB] w λe w'=>e=ab4 (atV (X.view.at_ aB))/\acN w.heap.size w w':=by
 have HV:Hid (X.view.at_ aB=match MP.get X.N aB with|some p=>some p|none=>if MP.has X.D aB then none else MP.get X.S aB):=az rfl;have F0:Hid (aD (w.alloc (ach #[vi 0,vi 0] 165)) w.heap.size 165 #[vi 0,vi 0]):=az (aD.new _ _ _);have HB:Hid (acN w.heap.size w (w.alloc (ach #[vi 0,vi 0] 165))):=az ax;have H:=az (h.old HB.o);clear h;go_in;go_upto_region 1 with fail;generalize w.alloc (ach #[vi 0,vi 0] 165)=w0 at*;have c6:w0.cell? ⟨f,6,none⟩=some (.map (some X.bn)):=H.o.obj.cell 6;cases hg:MP.get X.N aB with
 |some p =>
  obtain⟨pb,pp⟩:=p;rw[hg]at HV;have L:=mg H.o.now hg;clear hg;go_upto_region 2 with fail;have FZ:Hid (aD (w0.alloc (ach #[vi pb,vi pp] 165)) w.heap.size 165 #[vi 0,vi 0]):=az (F0.o.alloc _);have FY:Hid (aD (w0.alloc (ach #[vi pb,vi pp] 165)) w0.heap.size 165 #[vi pb,vi pp]):=az (aD.new _ _ _);have Kv:Hid (acN w.heap.size w (w0.alloc (ach #[vi pb,vi pp] 165))):=az (HB.o.alloc HB.o.size _);clear F0 HB H L c6;generalize w0.alloc (ach #[vi pb,vi pp] 165)=wz at*;generalize w0.heap.size=gz at*;obtain⟨d0,d1,f0,f1⟩:=bO FZ.o;obtain⟨y0,y1,_,_⟩:=bO FY.o
  go_wp2_with fail;obtain⟨hf,hw⟩:=vT (vi pb) (vi pp) FZ.o Kv.o aj;refine ac5 (sO hf _ rfl rfl) rfl ?_;rw[HV.o];exact⟨rfl,hw⟩
 |none =>
  rw[hg]at HV;have L:=mh H.o.now hg;clear hg;go_upto_region 4 with fail;have F1:Hid (aD (w0.alloc (ach #[vi 0,vi 0] 165)) w.heap.size 165 #[vi 0,vi 0]):=az (F0.o.alloc _);have HB1:Hid (acN w.heap.size w (w0.alloc (ach #[vi 0,vi 0] 165))):=az (HB.o.alloc HB.o.size _);have H1:Hid (bP aA (w0.alloc (ach #[vi 0,vi 0] 165)) f X):=az (H.o.old ax);clear c6 L H HB F0;generalize w0.alloc (ach #[vi 0,vi 0] 165)=w1 at*;have c7:w1.cell? ⟨f,7,none⟩=some (.map (some X.bg)):=H1.o.obj.cell 7;cases hd:MP.get X.D aB with
  |some p =>
   obtain⟨pb,pp⟩:=p;have hh:MP.has X.D aB=true:=by rw[MP.has,hd];rfl
   rw[hh]at HV;have L:=mg H1.o.gone hd;clear hd hh;go_upto_region 5 with fail;have FZ:Hid (aD (w1.alloc (ach #[vi pb,vi pp] 165)) w.heap.size 165 #[vi 0,vi 0]):=az (F1.o.alloc _);have FY:Hid (aD (w1.alloc (ach #[vi pb,vi pp] 165)) w1.heap.size 165 #[vi pb,vi pp]):=az (aD.new _ _ _);have Kv:Hid (acN w.heap.size w (w1.alloc (ach #[vi pb,vi pp] 165))):=az (HB1.o.alloc HB1.o.size _);clear F1 HB1 H1 L c7;generalize w1.alloc (ach #[vi pb,vi pp] 165)=wz at*;generalize w1.heap.size=gz at*;obtain⟨d0,d1,f0,f1⟩:=bO FZ.o;obtain⟨y0,y1,_,_⟩:=bO FY.o;go_wp2_with fail
   obtain⟨hf,hw⟩:=vT (vi 0) (vi 0) FZ.o Kv.o aj;refine ac5 (sO hf _ rfl rfl) rfl ?_;rw[HV.o];exact⟨rfl,hw⟩
  |none =>
   have hh:MP.has X.D aB=false:=by rw[MP.has,hd];rfl
   rw[hh]at HV;have L:=mh H1.o.gone hd;clear hd hh;go_upto_region 7 with fail;have F2:Hid (aD (w1.alloc (ach #[vi 0,vi 0] 165)) w.heap.size 165 #[vi 0,vi 0]):=az (F1.o.alloc _);have HB2:Hid (acN w.heap.size w (w1.alloc (ach #[vi 0,vi 0] 165))):=az (HB1.o.alloc HB1.o.size _);have H2:Hid (bP aA (w1.alloc (ach #[vi 0,vi 0] 165)) f X):=az (H1.o.old ax);clear c7 L H1 HB1 F1;generalize w1.alloc (ach #[vi 0,vi 0] 165)=w2 at*;have c5:w2.cell? ⟨f,5,none⟩=some (.map (some X.bs)):=H2.o.obj.cell 5;cases hs:MP.get X.S aB with
   |some p =>
    obtain⟨pb,pp⟩:=p;rw[hs]at HV;have L:=mg H2.o.bD hs;clear hs;go_upto_region 8 with fail;have FZ:Hid (aD (w2.alloc (ach #[vi pb,vi pp] 165)) w.heap.size 165 #[vi 0,vi 0]):=az (F2.o.alloc _);have FY:Hid (aD (w2.alloc (ach #[vi pb,vi pp] 165)) w2.heap.size 165 #[vi pb,vi pp]):=az (aD.new _ _ _);have Kv:Hid (acN w.heap.size w (w2.alloc (ach #[vi pb,vi pp] 165))):=az (HB2.o.alloc HB2.o.size _);clear F2 HB2 H2 L c5;generalize w2.alloc (ach #[vi pb,vi pp] 165)=wz at*;generalize w2.heap.size=gz at*;obtain⟨d0,d1,f0,f1⟩:=bO FZ.o;obtain⟨y0,y1,_,_⟩:=bO FY.o
    go_wp2_with fail;obtain⟨hf,hw⟩:=vT (vi pb) (vi pp) FZ.o Kv.o aj;refine ac5 (sO hf _ rfl rfl) rfl ?_;rw[HV.o];exact⟨rfl,hw⟩
   |none =>
    rw[hs]at HV;have L:=mh H2.o.bD hs;clear hs;go_upto_region 8 with fail;have FZ:Hid (aD (w2.alloc (ach #[vi 0,vi 0] 165)) w.heap.size 165 #[vi 0,vi 0]):=az (F2.o.alloc _);have FY:Hid (aD (w2.alloc (ach #[vi 0,vi 0] 165)) w2.heap.size 165 #[vi 0,vi 0]):=az (aD.new _ _ _);have Kv:Hid (acN w.heap.size w (w2.alloc (ach #[vi 0,vi 0] 165))):=az (HB2.o.alloc HB2.o.size _);clear F2 HB2 H2 L c5;generalize w2.alloc (ach #[vi 0,vi 0] 165)=wz at*;generalize w2.heap.size=gz at*;obtain⟨d0,d1,f0,f1⟩:=bO FZ.o;obtain⟨y0,y1,_,_⟩:=bO FY.o;go_wp2_with fail;obtain⟨hf,hw⟩:=vT (vi 0) (vi 0) FZ.o Kv.o aj
    refine ac5 (sO hf _ rfl rfl) rfl ?_;rw[HV.o];exact⟨rfl,hw⟩
def yM {c:NP.bX}(h:c.ok)(j p:Int):∀y∈(NP.bQ c j p).1.1,y<256:=by
 unfold NP.bQ;dsimp only;split;rename_i h0;dsimp only;split;intro y hy;rw[(List.mem_replicate.1 hy).2];decide;intro y hy;unfold NP.asked at h0;split at h0;cases h0;split at h0;rename_i h1;have hk:j.toNat<c.bs.length:=by rw[h.blocks];omega
 have hb:=NP.bL (d:=(default:NP.NZ)) hk;have hp:p.toNat<(c.bs.getD j.toNat default).ps.length:=by rw[h.pages _ hb];omega
 exact h.small _ hb _ (NP.bL (d:=[]) hp) y hy;cases h0;simp
def dm.Fit.fit (h:X.Fit):X.G.fit X.M.P:=iL.fit_of rfl (h.lL.fit h.bI.2.1 h.bI.2.2.2.1)
def dm.Fit.left (h:X.Fit):wrap64 (X.G.aC-wrap64 ((aN 4 X.G.l:Nat)-X.G.bad))=FP.left X.G.view/\ -70000<=FP.left X.G.view/\FP.left X.G.view<=140000:=by
 have hg:=h.qE;have hcl:=oh 4 X.G.l;have hgl:=h.WS;have hd:=h.bI;unfold FP.left wrap64;dsimp only[iL.view];omega
def Kw (h:bP aA w f X)(hx:X.Fit):ac4 prog 169 #[ptr f] w λe w'=>e=ab4 (acg (FP.enough X.G.view X.M.P))/\acN w.heap.size w w':=by
 obtain⟨c0,c1,c2,c3,c4,c5,c6,c7,c8,c9,c10,c11⟩:=h.cells;have H:=az h;have HX:=az hx;have hlf:=hx.left;have HW:=az hlf.1;have hl1:=hlf.2;have hcl:=oh 0 X.G.l;have hgl:=hx.WS;have hd:=hx.bI;have hcm:aN 0 X.G.l*X.M.P<=128*32:=Nat.mul_le_mul aa aa;have HV:Hid (FP.enough X.G.view X.M.P=decide ((if bT X.G X.M.P=((aN 0 X.G.l:Nat):Int)*X.M.P then FP.left X.G.view+1+1 else FP.left X.G.view+1)<=((aN 0 X.G.l:Nat):Int))):=az rfl;have hcz:((aN 0 X.G.l:Nat):Int)*(X.M.P:Int)=((aN 0 X.G.l*X.M.P:Nat):Int):=by rw[Int.natCast_mul]
 have q3:adk.wrap (((aN 0 X.G.l:Nat):Int)*(X.M.P:Int))=((aN 0 X.G.l:Nat):Int)*(X.M.P:Int):=adl _ (by rw[hcz];omega);clear h hx c2 c3 c4 c5 c6 c7 c8 c9 c10 c11 hlf hcz hcm hgl;go_in;go_wp2_with fail;refine(Hy H.o.held.mgr).mono ?_;rw[HW.o];rintro e w1 ⟨rfl,hb1⟩;have HB1:=az hb1;have H1:=az (H.o.old hb1);have c0:=cell_below c0 hb1;have c1:=cell_below c1 hb1;clear hb1 H;have HRO:Hid (∀n:Sub w1,ac4 prog _ #[ptr X.m] n.w λe w'=>e=ab4 (vi (bT X.G X.M.P))/\acN n.w.heap.size n.w w'):=az (λn=>fP (H1.o.held.mgr.old n.below) (H1.o.held.aW.old n.below) HX.o.fit)
 have yB:Hid (∀n:Sub w1,ac4 prog _ #[ptr X.m] n.w λe w'=>e=ab4 (vi (aN 0 X.G.l:Nat))/\acN n.w.heap.size n.w w'):=az (λn=>mG (H1.o.held.mgr.old n.below));have AX:Hid (∀n:Sub w1,ac4 prog _ #[ptr X.G.k] n.w λe w'=>e=ab4 (adA #[vi X.M.B,vi X.M.P,vi X.M.S])/\acN n.w.heap.size n.w w'):=az (λn=>iZ (H1.o.held.aW.old n.below));have hf:=aaH;generalize bT X.G X.M.P=rm at*;generalize FP.left X.G.view=lf at*;generalize aN 0 X.G.l=cn at*;have q1:adk.wrap (lf+1)=lf+1:=adl _ aa;have q2:adk.wrap (lf+1+1)=lf+1+1:=adl _ aa
 go_upto_region 2 with fail;have c0':=c0;have c1':=c1;have c0:=Sub.cell c0;have c1:=Sub.cell c1;refine aZ ah ah ?_;repeat (go_big_quiet_step (first|exact fM (HRO.o _)|exact fM (yB.o _)|exact fM (AX.o _)))
 refine adE ?_;rintro _ ⟨nq,rfl⟩;have Ar:=az (HB1.o.trans (nq.below.mono HB1.o.size));have H2:=az (H1.o.old nq.below);have e1:nq.w.cell? ⟨f,1,none⟩=some (ptr X.m):=H2.o.obj.cell 1;clear c0 c1 c0' c1' HRO AX;by_cases hr:rm=(cn:Int)*X.M.P
 ·have hr':(rm==(cn:Int)*X.M.P)=true:=by simp[hr]
  have HRR:=az hr;clear hr;go_wp2_with fail;refine(yB.o nq).mono ?_;rintro e w3 ⟨rfl,hb3⟩;have HB3:=az (Ar.o.trans (hb3.mono Ar.o.size));clear hb3;go_wp2;go_ret;exact⟨aU (by rw[HV.o,if_pos HRR.o]),HB3.o⟩
 have hr':(rm==(cn:Int)*X.M.P)=false:=by simp[hr]
 have HRR:=az hr;clear hr;go_wp2_with fail;refine(yB.o nq).mono ?_;rintro e w3 ⟨rfl,hb3⟩;have HB3:=az (Ar.o.trans (hb3.mono Ar.o.size));clear hb3;go_wp2;go_ret;exact⟨aU (by rw[HV.o,if_neg HRR.o]),HB3.o⟩
def Iz (h:bP aA w f X)(hx:X.Fit)(hl:X.later.all (λx=> !x)=true):ac4 prog 143 #[ptr f] w λe w'=>e=ab4 (vi 0)/\acN w.heap.size w w':=by
 have HL:Hid (∀k,k<X.later.length->X.later.getD k false=false):=az (λk hk=>by
  have:=List.all_eq_true.1 hl _ (NP.bL (d:=false) hk)
  simpa using this)
 have hll:=hx.rz;have hd:=hx.bI;have hlb:X.later.length<=128:=aa;have HB:Hid (acN w.heap.size w (w.alloc (ach #[acg false,acg true] 4))):=az ax;have FB:Hid (aD (w.alloc (ach #[acg false,acg true] 4)) w.heap.size 4 #[acg false,acg true]):=az (aD.new _ _ _);have H:=az (h.old HB.o);clear h hx hl hll hd;go_in;go_wp2_with fail;generalize w.alloc (ach #[acg false,acg true] 4)=w0 at*;have c10:w0.cell? ⟨f,10,none⟩=some (aco (some ⟨X.lg,0,none⟩) X.later.length X.lc):=H.o.obj.cell 10;have b0:w0.cell? ⟨w.heap.size,0,none⟩=some (acg false):=FB.o.cell 0
 have b1:w0.cell? ⟨w.heap.size,1,none⟩=some (acg true):=FB.o.cell 1;go_loop [9] (λi=>∃n:Nat,n<=2/\i=vi n) (λi=>2-(intOf i).toNat)
 case atStart=>exact⟨0,aa,rfl⟩
 case round =>
  obtain⟨n,hn,rfl⟩:=hrel;by_cases hlt:n<2
  ·have hbn:w0.cell? ⟨w.heap.size,n,none⟩=some (acg (decide (n=1))):=by
    obtain rfl|rfl:n=0\/n=1:=aa;exact b0;exact b1
   generalize decide (n=1)=nd at*;clear b0 b1;have hn0:(0:Int)<=(n:Int):=aa;have hn1:(n:Int)<2:=aa;go_wp2_with fail;go_loop [18] (λi=>∃k:Nat,k<=X.later.length/\i=vi k) (λi=>X.later.length-(intOf i).toNat)
   case atStart=>exact⟨0,aa,rfl⟩
   case round =>
    obtain⟨k,hk,rfl⟩:=hrel;by_cases hlk:k<X.later.length
    ·have hck:w0.cell? ⟨X.lg,k,none⟩=some (acg false):=by
      rw[H.o.later.cell aa,List.getElem?_map,List.getElem?_eq_getElem hlk];have:=HL.o k hlk;rw[aah,List.getElem?_eq_getElem hlk]at this;simpa using this
     have hk0:(0:Int)<=(k:Int):=aa;have hk1:(k:Int)<(X.later.length:Int):=aa;go_wp2_with fail;go_round
     case rel=>exact⟨k+1,aa,by go_num⟩
     case measure=>simp[intOf];omega
    obtain rfl:k=X.later.length:=aa;go_wp2_with fail;go_round
    case rel=>exact⟨n+1,aa,by go_num⟩
    case measure=>simp[intOf];omega
  obtain rfl:n=2:=aa;go_wp2;go_ret;exact⟨rfl,HB.o⟩
variable{n:Int}
def Bb (hb:aD w' g 165 #[v0,v1])(tmps:Array acK)(h2:tmps[4]?=some (adj (some ⟨g,0,none⟩)))(h4:tmps[5]?=some (vi n)) :
  (results Tryz.f146 tmps).run prog w'=.ok (adg #[adA #[v0,v1],vi n]) w':=by
 have g0:w'.cell? ⟨g,0,none⟩=some v0:=hb.cell 0;have g1:w'.cell? ⟨g,1,none⟩=some v1:=hb.cell 1;simp only[results,results146];simp[go_sem,h2,h4,g0,g1]
def Bc (hb:aD w' g 165 #[v0,v1])(tmps:Array acK)(h2:tmps[6]?=some (adj (some ⟨g,0,none⟩)))(h4:tmps[7]?=some (vi n)) :
  (results Tryz.f115 tmps).run prog w'=.ok (adg #[adA #[v0,v1],vi n]) w':=by
 have g0:w'.cell? ⟨g,0,none⟩=some v0:=hb.cell 0;have g1:w'.cell? ⟨g,1,none⟩=some v1:=hb.cell 1;simp only[results,results115];simp[go_sem,h2,h4,g0,g1]
def WV (aA:Nat)(w:acL)(f:Nat)(X:dm)(p:FP.cB)(V:FP.Ft)(e:Ending)(w':acL):Prop :=
 ∃X',e=ab4 (adg #[dz p,vi 0])/\aQ aA w f X w' X'/\X'.view=V
def aQ.ahead (h:bP aA w f X)(hb:acN w.heap.size w W)(q:aQ aA W f X w' X'):aQ aA w f X w' X':=(aQ.aX h hb).trans q
def aQ.iT (h:aQ aA w f X w' X')(q:acN w.heap.size w' W)(h2:bP aA W f X'):aQ aA w f X W X' :=
 ⟨h2,⟨q.os.trans h.aJ.os,q.tape.trans h.aJ.tape,q.output.trans h.aJ.output,abX h.aJ.size q.size,λk hk hn=>(q.block k hk).trans (h.aJ.block k hk hn)⟩,h.foot,h.key⟩
def Dl (h:bP aA w f X)(hG:gW X.M.view)(hK:X.G.view.ok X.M.view)(a:Option Addr)(l:List Nat)(c:Nat)(hr:dx aA w a l)(hq:(Mg.program l X.M.view X.G.view).1.2.2=0)(hbase:aA<=w.heap.size) :
  ac4 prog 146 #[ptr f,aco a l.length c] w (WV aA w f X ⟨(Mg.program l X.M.view X.G.view).1.1,(Mg.program l X.M.view X.G.view).1.2.1⟩ {X.view with c:=(Mg.program l X.M.view X.G.view).2.1,g:=(Mg.program l X.M.view X.G.view).2.2}):=by
 have F0:Hid (aD (w.alloc (ach #[vi 0,vi 0] 165)) w.heap.size 165 #[vi 0,vi 0]):=az (aD.new _ _ _);have HB:Hid (acN w.heap.size w (w.alloc (ach #[vi 0,vi 0] 165))):=az ax;have H0:=az h;have H:=az (h.old HB.o);have HX:=az hG;have lM:=az hK;have HR:=az (hr.old HB.o);clear h hG hK hr;go_in;go_upto_region 1 with fail;generalize w.alloc (ach #[vi 0,vi 0] 165)=w0 at*;have c1:w0.cell? ⟨f,1,none⟩=some (ptr X.m):=H.o.obj.cell 1;have HP:=az (mgr.nC H.o.held HX.o.ok lM.o a l c HR.o);change Hid (ac4 _ _ _ _ (qh aA w0 X.m X.G X.M (Mg.program l X.M.view X.G.view))) at HP
 generalize Mg.program l X.M.view X.G.view=r at*;obtain⟨⟨x,y,z⟩,V,g'⟩:=r;dsimp only at hq ⊢;subst hq;go_loop [8] (λ_=>True) (λ_=>0)
 case atStart=>trivial
 case round =>
  go_wp2_with fail;refine HP.o.mono ?_;rintro e w1 ⟨M2,rfl,hg,hv⟩;have hgo:=H.o.goes hg;have Ky:∀n,X.foot f n->n<w.heap.size:=H0.o.lt;have F1:=az (F0.o.aJ hgo.aJ (λe=>by have:=Ky _ e;omega));have HG:=az (aQ.ahead H0.o HB.o hgo);have HVV:=az hv;have HF:Hid (∀n,{X with G:=X.G.lay g',M:=M2:dm}.foot f n->n≠w.heap.size):=az (λn e e2=>by
   rcases hgo.foot n e with h1|h1
   have:=Ky _ h1;omega
   have:=F0.o.lt;omega)
  obtain⟨d0,d1,f0,f1⟩:=bO F1.o;clear hg hv hgo Ky HP;go_wp2_with fail;have hset:aP (λn=>n=w.heap.size) w1 ((w1.setCell ⟨w.heap.size,0,none⟩ (vi x)).setCell ⟨w.heap.size,1,none⟩ (vi y)):=((aP.refl (λn=>n=w.heap.size) w1).setCell (p:=⟨w.heap.size,0,none⟩) (ack rfl) _).setCell (p:=⟨w.heap.size,1,none⟩) (ack rfl) _;refine ac5 (Bb ((F1.o.bB 0 (vi x)).bB 1 (vi y)) _ rfl rfl) rfl ⟨_,rfl,HG.o.iT ?_ ?_,?_⟩;exact⟨hset.os,hset.tape,hset.output,hset.size,λk hk=>hset.block k (Nat.lt_of_lt_of_le hk HG.o.size) aa⟩;exact HG.o.at_.aJ hset (λn e=>by subst e;exact Loose.blk hbase F1.o) (λn e e2=>HF.o n e e2)
  show FP.Ft.mk _ _ _ _ _ _ _ _ _ _ _ _=_;rw[HVV.o]
variable{V:FP.Ft}
def Bd {F:FP.Ft}{aL:Int}{aB:Nat}{b:List Nat}{p:FP.cB}(h:F.put aL aB b=some (p,V)) :
  F.later.all (λx=> !x)=true/\FP.enough F.g F.c.P=true/\(TP.write ⟨aL,aB,F.seq,F.aM⟩ b).2=0/\(Mg.program (TP.write ⟨aL,aB,F.seq,F.aM⟩ b).1 F.c F.g).1.2.2=0 /\
   p=⟨(Mg.program (TP.write ⟨aL,aB,F.seq,F.aM⟩ b).1 F.c F.g).1.1,(Mg.program (TP.write ⟨aL,aB,F.seq,F.aM⟩ b).1 F.c F.g).1.2.1⟩ /\
   V={F with c:=(Mg.program (TP.write ⟨aL,aB,F.seq,F.aM⟩ b).1 F.c F.g).2.1,g:=(Mg.program (TP.write ⟨aL,aB,F.seq,F.aM⟩ b).1 F.c F.g).2.2,seq:=F.seq+1}:=by
 unfold FP.Ft.put at h;split at h;rename_i h1;simp only[ac8]at h1;dsimp only at h;split at h;rename_i h2;split at h;rename_i h3;simp only[Option.some.injEq,Prod.mk.injEq]at h;exact⟨h1.1,h1.2,h2,h3,h.1.symm,h.2.symm⟩;cases h;cases h;cases h
def D9 {t:TP.Tag}{b:List Nat}(h:(TP.write t b).2=0):t.seq<4611686018427387904/\t.aM<4611686018427387904/\t.aB<8192/\b.length<=512:=by
 unfold TP.write at h;split at h;rename_i h1;simp only[ac8]at h1;have h2:=yJ h1.1;have h3:=vP h1.2;exact⟨h2.2.1,h2.2.2,h2.1,aa⟩;cases h
def rC {t:TP.Tag}{b:List Nat}(h:∀y∈b,y<256):∀y∈(TP.write t b).1,y<256:=by
 unfold TP.write;split;exact TP.Ha h;simp
def lY (W:acL)(g i j:Nat)(u v:acK):aP (λn=>n=g) W ((W.setCell ⟨g,i,none⟩ u).setCell ⟨g,j,none⟩ v) :=
 ((aP.refl (λn=>n=g) W).setCell (p:=⟨g,i,none⟩) (ack rfl) _).setCell (p:=⟨g,j,none⟩) (ack rfl) _
variable{i j:Nat}
def nH (u v:acK)(hs:w.heap.size<=W.heap.size)(hg:w.heap.size<=g):acN w.heap.size W ((W.setCell ⟨g,i,none⟩ u).setCell ⟨g,j,none⟩ v):=by
 have h:=lY W g i j u v;exact⟨h.os,h.tape,h.output,h.size,λk hk=>h.block k aa aa⟩
def yN (b:List Nat):∀(n:Nat) (c:NP.bX) (g:Mg),(Mg.progTo b n c g).2.2.aC=g.aC/\(Mg.progTo b n c g).2.2.bad=g.bad
 |0,_,_=>⟨rfl,rfl⟩
 |n+1,c,g0=>by
  have h0:(if g0.at_= -1 then g0.begun else g0).aC=g0.aC/\(if g0.at_= -1 then g0.begun else g0).bad=g0.bad:=by
   split;unfold Mg.begun;split<;>exact⟨rfl,rfl⟩;exact⟨rfl,rfl⟩
  unfold Mg.progTo;dsimp only;generalize (if g0.at_= -1 then g0.begun else g0)=g at*;rw[<-h0.1,<-h0.2];split;exact⟨rfl,rfl⟩;split;exact yN b n _ _;split;dsimp only;split<;>exact⟨rfl,rfl⟩;split<;>exact⟨rfl,rfl⟩
def vU (b:List Nat)(c:NP.bX)(g:Mg):(Mg.program b c g).2.2.aC=g.aC/\(Mg.program b c g).2.2.bad=g.bad:=by
 unfold Mg.program;split;exact⟨rfl,rfl⟩;split;exact⟨rfl,rfl⟩;exact yN _ _ _ _
def sP (g:Mg)(k:Int):(g.drop k).2.aC=g.aC/\(g.drop k).2.bad=g.bad:=by
 unfold Mg.drop;split<;>exact⟨rfl,rfl⟩
section
variable{F V:FP.Ft}{p:FP.cB}
def Fit.cap (h:Fit F):F.cap<=4096:=by
 have hd:=sM h.good.ok;have hr:=h.res;show ((F.c.B:Int)-F.bad-F.aC-1)*F.c.P-2<=4096;by_cases h0:0<=((F.c.B:Int)-F.bad-F.aC-1);have:((F.c.B:Int)-F.bad-F.aC-1)*F.c.P<=128*32:=Int.mul_le_mul aa aa aa aa;omega;have:=Int.mul_nonpos_of_nonpos_of_nonneg (a:=((F.c.B:Int)-F.bad-F.aC-1)) (b:=(F.c.P:Int)) aa aa;omega
def Fit.aB (h:Fit F){aB:Nat}(h0:F.logical aB=0):0<=(aB:Int)/\(aB:Int)<8192/\aB≠0:=by
 unfold FP.Ft.logical at h0;split at h0;cases h0;split at h0;cases h0;rename_i h1;have:=h.cap;omega
def Fit.put (h:Fit F){aL:Int}{aB:Nat}{b:List Nat}(hb:∀y∈b,y<256)(e:F.put aL aB b=some (p,V)):Fit V/\V.bD=F.bD/\V.now=F.now/\V.gone=F.gone/\V.c.P=F.c.P/\V.aC=F.aC/\V.bad=F.bad/\V.c.S=F.c.S/\V.c.B=F.c.B/\V.aM=F.aM/\V.later=F.later:=by
 obtain⟨_,_,_,_,_,rfl⟩:=Bd e;have hs:=rC (t:=⟨aL,aB,F.seq,F.aM⟩) hb;have ha:=kC (g:=F.g) (c:=F.c) hs;have hsm:=vU (TP.write ⟨aL,aB,F.seq,F.aM⟩ b).1 F.c F.g;refine⟨⟨ha.good h.good,nP hs h.good h.lL,h.res,?_,h.slow,h.oG,h.kQ,h.rz.trans ha.bI.1.symm,h.lC⟩,rfl,rfl,rfl,ha.bI.2.1,rfl,rfl,ha.bI.2.2,ha.bI.1,rfl,rfl⟩;dsimp only;rw[hsm.1,hsm.2];exact h.qE
def Fit.now (h:Fit F){m:Mp FP.cB}(hm:Low m):Fit {F with now:=m}:=⟨h.good,h.lL,h.res,h.qE,h.slow,hm,h.kQ,h.rz,h.lC⟩
end
def dY (aA:Nat)(w:acL)(f:Nat)(X:dm)(r:Int×FP.Ft)(e:Ending)(w':acL):Prop:=∃X',e=ab4 (vi r.1)/\aQ aA w f X w' X'/\X'.view=r.2
def dY.mk {r:Int×FP.Ft}(hr:r=(n,V))(hg:aQ aA w f X w' X')(hv:X'.view=V):dY aA w f X r (ab4 (vi n)) w':=⟨X',by rw[hr],hg,by rw[hr];exact hv⟩
section
variable{b:Nat}{m:Mp FP.cB}
def Ea (h:bP aA w f X)(hx:X.Fit)(k:Int):ac4 prog 109 #[ptr X.m,vi k] w λe w'=>e=ab4 (vi (X.G.view.drop k).1)/\aQ aA w f X w' {X with G:=X.G.lay (X.G.view.drop k).2}:=by
 refine(mgr.rq h.held hx.lL hx.bI.2.2.2.1 k).mono ?_;rintro e w' ⟨he,hg⟩;exact⟨he,h.goes hg⟩
def aQ.far {t:TypeId}{cs:Array acK}(h:aQ aA w f X w' X')(hb:aD w g t cs)(hn:¬X.foot f g):aD w' g t cs:=hb.aJ h.aJ hn
def xH (h:bz w b .u32 dz m)(j:Int):∃w',J7 149 118 (.map (some b)) (.int .u32 j) w w'/\bz w' b .u32 dz (MP.del m j)/\w.grownBy w' (some b):=by
 obtain⟨w',h1,h2,h3⟩:=h.delete (P:=prog) underlying149 underlying118 j;exact⟨w',⟨h1⟩,h2,h3⟩
def rE (h:bz w b .u32 dz m)(j pb pp:Int):∃w',ER 149 (.map (some b)) (.int .u32 j) (.agg #[vi pb,vi pp]) w w'/\bz w' b .u32 dz (MP.put m j ⟨pb,pp⟩)/\w.grownBy w' (some b):=by
 obtain⟨w',h1,h2,h3⟩:=h.update (P:=prog) underlying149 underlying118 j (⟨pb,pp⟩:FP.cB);exact⟨w',⟨h1⟩,h2,h3⟩
def vV (h:bz w b .u32 dz m)(j:Int):∃(pb pp:Int) (ok:Bool),(abw 149 (.map (some b)) (.int .u32 j) true).run prog w=.ok (adg #[adA #[vi pb,vi pp],acg ok]) w/\(ok=true->MP.get m j=some ⟨pb,pp⟩)/\(ok=false->MP.get m j=none):=by
 cases hg:MP.get m j with
 |some p=>exact⟨p.block,p.aB,true,mg h hg,λ_=>rfl,λe=>by cases e⟩
 |none=>exact⟨0,0,false,mh h hg,λe=>(by cases e),λ_=>rfl⟩
def drop1 (F:FP.Ft)(aB:Int):FP.Ft:=match MP.get F.now aB with
 |some p=>{F with g:=(F.g.drop p.block).2,now:=MP.del F.now aB}
 |none=>F
def Be (F:FP.Ft)(aB:Int):(drop1 F aB).bD=F.bD/\(drop1 F aB).gone=F.gone:=by
 unfold drop1;split<;>exact⟨rfl,rfl⟩
def drop_eq (F:FP.Ft)(aB:Nat):F.drop aB=if F.logical aB≠0 then (F.logical aB,F) else
  match MP.get F.bD aB with
  |some p=>(0,{drop1 F aB with gone:=MP.put F.gone aB p})
  |none=>(0,drop1 F aB):=by
 unfold FP.Ft.drop drop1;dsimp only;split;rfl;cases MP.get F.now aB<;>cases MP.get F.bD aB<;>rfl
def rq (h:bP aA w f X)(hx:X.Fit)(aB:Nat)(hp:aB<4294967296):ac4 prog 72 #[ptr f,vw aB] w (dY aA w f X (X.view.drop aB)):=by
 have H:=az h;have HX:=az hx;have HV:=az (drop_eq X.view aB);have HD1:Hid (drop1 X.view aB=match MP.get X.N aB with|some p=>{X.view with g:=(X.G.view.drop p.block).2,now:=MP.del X.N aB}|none=>X.view):=az rfl;have lX:=az (Be X.view aB);generalize drop1 X.view aB=V1 at*;clear h hx;go_in;go_wp2_with fail;refine(rA H.o HX.o aB hp).mono ?_;rintro e w1 ⟨rfl,hb1⟩;have HB1:=az hb1;have H1:=az (H.o.old hb1);clear hb1;generalize X.view.logical aB=lg at*;by_cases h0:lg=0
 ·subst h0;rw[if_neg ai]at HV;have c6:w1.cell? ⟨f,6,none⟩=some (.map (some X.bn)):=H1.o.obj.cell 6;obtain⟨pb,pp,ok,L,hsome,hnone⟩:=vV H1.o.now aB;have SQ:=az hsome;have QS:=az hnone;clear hsome hnone;go_upto_region 5 with fail;have FB:Hid (aD (w1.alloc (ach #[vi pb,vi pp] 165)) w1.heap.size 165 #[vi pb,vi pp]):=az (aD.new _ _ _);have H2:Hid (bP aA (w1.alloc (ach #[vi pb,vi pp] 165)) f X):=az (H1.o.old ax);have HB2:Hid (acN w.heap.size w (w1.alloc (ach #[vi pb,vi pp] 165))):=az (HB1.o.alloc HB1.o.size _)
  have Zd:Hid (¬X.foot f w1.heap.size):=az (λe=>by have:=H1.o.lt _ e;omega);clear L H1 HB1 c6;generalize w1.alloc (ach #[vi pb,vi pp] 165)=w2 at*;generalize w1.heap.size=g at*;go_upto_if 25 with fail;go_cut [26] from 26 to 53 (λ_ wx=>∃Y,Hid (aQ aA w f X wx Y/\Y.view=V1))
  case first =>
   cases ok
   ·rw[QS.o rfl]at HD1;have HG2:=az (aQ.aX H.o HB2.o);go_wp2;go_meet;exact⟨X,az ⟨HG2.o,HD1.o.symm⟩⟩
   rw[SQ.o rfl]at HD1;go_upto_region 6 with fail;obtain⟨d0,d1,_,_⟩:=bO FB.o;have c1:w2.cell? ⟨f,1,none⟩=some (ptr X.m):=H2.o.obj.cell 1;have HS:Hid (w2.drew.cell? ⟨f,1,none⟩=some (ptr X.m)/\w2.drew.cell? ⟨g,0,none⟩=some (vi pb)):=az ⟨c1,d0⟩;have OB:=az (Ea (H2.o.old au) HX.o pb);have nS:Hid (∀W,aQ aA w2.drew f X W {X with G:=X.G.lay (X.G.view.drop pb).2}->(W.cell? ⟨f,1,none⟩=some (ptr X.m)/\W.cell? ⟨g,0,none⟩=some (vi pb))) :=
    az (λW q=>⟨q.at_.obj.cell 1,(q.far (FB.o.old au) Zd.o).cell 0⟩)
   go_region_held3 (λw'=>w'.cell? ⟨f,1,none⟩=some (ptr X.m)/\w'.cell? ⟨g,0,none⟩=some (vi pb))
    (first|exact HS.o|exact nS.o _ (by assumption))
    (first|(go_at_call 109;refine OB.o.mono ?_;rintro e w3 ⟨rfl,hg3⟩))
   have iR:=az ((aQ.aX H.o HB2.o).trans ((aQ.aX H2.o au).trans hg3));clear hg3 nS HS OB c1 d0 d1 H2;obtain⟨w4,hdel,SV,IA⟩:=xH iR.o.at_.now aB;have vQ:=az hdel;have qK:=az (iR.o.trans (iR.o.at_.Fp IA SV));have c6:w3.cell? ⟨f,6,none⟩=some (.map (some X.bn)):=iR.o.at_.obj.cell 6;clear hdel SV IA;go_wp2_with (at_delete;refine eu rfl (.tmp 36) (.tmp 37) rfl rfl rfl (vQ.o.run _) ?_);go_meet;exact⟨_,az ⟨qK.o,HD1.o.symm⟩⟩
  case rest =>
  obtain⟨Y,hcut⟩:=hcut;have MM:=az hcut.o.1;have Ze:=az hcut.o.2;have HYS:Hid (Y.S=X.S/\Y.D=X.D):=az ⟨by have:=lX.o.1;rw[<-Ze.o]at this;exact this,by have:=lX.o.2;rw[<-Ze.o]at this;exact this⟩;clear hcut FB H2 HB2 Zd SQ QS HD1 lX;have c5:wc.cell? ⟨f,5,none⟩=some (.map (some Y.bs)):=MM.o.at_.obj.cell 5;cases hs:MP.get X.S aB with
  |none =>
   rw[hs]at HV;have L:=mh MM.o.at_.bD (j:=aB) (by rw[HYS.o.1];exact hs);have IB:=az (MM.o.old (ak.alloc aj (ach #[vi 0,vi 0] 165)));clear hs;go_wp2;go_ret;exact dY.mk HV.o IB.o Ze.o
  |some p =>
   obtain⟨pb,pp⟩:=p;rw[hs]at HV;have L:=mg MM.o.at_.bD (j:=aB) (by rw[HYS.o.1];exact hs);clear hs;go_upto_region 10 with fail;have FB:Hid (aD (wc.alloc (ach #[vi pb,vi pp] 165)) wc.heap.size 165 #[vi pb,vi pp]):=az (aD.new _ _ _);have IB:=az (MM.o.old (ak.alloc aj (ach #[vi pb,vi pp] 165)));clear L c5 MM;generalize wc.alloc (ach #[vi pb,vi pp] 165)=wd at*;generalize wc.heap.size=g at*;obtain⟨d0,d1,_,_⟩:=bO FB.o;have c7:wd.cell? ⟨f,7,none⟩=some (.map (some Y.bg)):=IB.o.at_.obj.cell 7;obtain⟨we,rG,hm,hgr⟩:=rE (IB.o.at_.old au).gone aB pb pp
   have HUP:=az rG;have AX:=az ((IB.o.old au).trans ((IB.o.at_.old au).zM hgr hm));clear rG hm hgr;have hup:=HUP.o.run;go_region_law (fail);all_goals
    go_wp2;go_ret;refine dY.mk HV.o AX.o ?_;rw[<-Ze.o,<-HYS.o.2]
 rw[if_pos h0]at HV;have HG:=az (aQ.aX H.o HB1.o);go_wp2;go_ret;exact dY.mk HV.o HG.o rfl
end
def older (F:FP.Ft)(aB:Int):FP.Ft:={F with g:=match MP.get F.now aB with|some old=>(F.g.drop old.block).2|none=>F.g}
def dm.fit_of (hv:X.view=V)(h:ft.Fit V):X.Fit:=by unfold dm.Fit;rw[hv];exact h
def SX (w:acL)(n m:Nat)(hm:n+m<=1000000):Own (w.alloc (ach (madeCells #[vb 0] (n+m)) 5)) w.heap.size (aco (some ⟨w.heap.size,0,none⟩) n (n+m)) (List.replicate n 0):=by
 refine⟨by simp[bv],acm ⟨w.heap.size,n+m,madeCells #[vb 0] (n+m),by rw[abP],aj,heap_alloc_new w _,by rw[abP];omega,by unfold maxLen;omega,by simp[madeCells],?_⟩⟩;rw[toList_madeCells_one,abP,Nat.mul_one,List.take_replicate,Nat.min_eq_left aa,bv,List.map_replicate]
def OO (n m:Nat)(hm:n+m<=1000000)(w:acL):(Instr.makeSlice 23 (.int .i64 (n:Int)) (.int .i64 ((n:Int)+(m:Int)))).run prog w=.ok (.slice (some ⟨w.heap.size,0,none⟩) n (n+m)) (w.alloc (.cells (madeCells #[vb 0] (n+m)) 5)):=by
 obtain⟨i0,hi,hz0,hz1,hz2⟩:=info_parts l8;have:=run_make (P:=prog) w 23 5 i0 (vb 0) underlying23 hi hz0 .i64 .i64 (n:Int) ((n:Int)+(m:Int)) aa aa (by rw[hz2];omega) aa;rw[hz1]at this;rw[show ((n:Int)+(m:Int)).toNat=n+m by omega,acW,Nat.mul_one]at this;exact this
def SY (aC bad:Int)(a:Option Addr)(l:List Nat)(c:Nat)(w:acL)(h:bE w a l)(hl:l.length<=10000)(h1:0<=aC/\aC<=65535)(h2:0<=bad/\bad<=65535) :
  ac4 prog 117 #[vi aC,vi bad,aco a l.length c] w λe w'=>∃v,e=ab4 v/\Own w' w.heap.size v (FP.jJ aC bad l)/\acN w.heap.size w w':=by
 obtain⟨rn,rfl⟩:∃rn:Nat,aC=rn:=⟨aC.toNat,aa⟩;obtain⟨bn,rfl⟩:∃bn:Nat,bad=bn:=⟨bad.toNat,aa⟩;have HHD:Hid (FP.jJ (rn:Int) (bn:Int) l=[rn%256,rn/256,bn%256,bn/256,0,0,0,0]++l):=az (by
  have e1:((rn:Int)%256).toNat=rn%256:=aa
  have e2:((rn:Int)/256%256).toNat=rn/256:=aa
  have e3:((bn:Int)%256).toNat=bn%256:=aa
  have e4:((bn:Int)/256%256).toNat=bn/256:=aa
  unfold FP.jJ
  rw[e1,e2,e3,e4])
 have hmk:(Instr.makeSlice 23 (.int .i64 8) (.int .i64 (8+(l.length:Int)))).run prog w=.ok (aco (some ⟨w.heap.size,0,none⟩) 8 (8+l.length)) (w.alloc (ach (madeCells #[vb 0] (8+l.length)) 5)):=OO 8 l.length aa w;have HO:=az (SX w 8 l.length aa);have HB:Hid (acN w.heap.size w (w.alloc (ach (madeCells #[vb 0] (8+l.length)) 5))):=az ax;have zi:=az h;have hc:(8:Nat)<=8+l.length:=aa;clear h;go_in;go_upto_region 2 with fail;generalize w.alloc (ach (madeCells #[vb 0] (8+l.length)) 5)=w0 at*;have f0:=jd HO.o ai 0
 have f1:=jd HO.o ai 1;have f2:=jd HO.o ai 2;have f3:=jd HO.o ai 3;have e0:=mH HO.o ai (j:=0) ag;have e1:=mH HO.o ai (j:=1) ag;have e2:=mH HO.o ai (j:=2) ag;have e3:=mH HO.o ai (j:=3) ag;go_upto_region 3 with fail;have hbase:w.heap.size<=w0.heap.size:=HB.o.size;have HO4:=az (o9 (o9 (o9 (o9 HO.o ai 0 (rn%256)) ai 1 (rn/256)) ai 2 (bn%256)) ai 3 (bn/256));have pI:Hid (acN w.heap.size w ((((w0.setCell ⟨w.heap.size,0,none⟩ (vb (rn%256))).setCell ⟨w.heap.size,1,none⟩ (vb (rn/256))).setCell ⟨w.heap.size,2,none⟩ (vb (bn%256))).setCell ⟨w.heap.size,3,none⟩ (vb (bn/256)))):=az
  ((((HB.o.setCell (p:=⟨w.heap.size,0,none⟩) aj _).setCell (p:=⟨w.heap.size,1,none⟩) aj _).setCell (p:=⟨w.heap.size,2,none⟩) aj _).setCell (p:=⟨w.heap.size,3,none⟩) aj _)
 have HR4:Hid (bE ((((w0.setCell ⟨w.heap.size,0,none⟩ (vb (rn%256))).setCell ⟨w.heap.size,1,none⟩ (vb (rn/256))).setCell ⟨w.heap.size,2,none⟩ (vb (bn%256))).setCell ⟨w.heap.size,3,none⟩ (vb (bn/256))) a l):=az (by
  exact zi.o.below pI.o)
 change Code.wp _ _ _ _ ((((w0.setCell ⟨w.heap.size,0,none⟩ (vb (rn%256))).setCell ⟨w.heap.size,1,none⟩ (vb (rn/256))).setCell ⟨w.heap.size,2,none⟩ (vb (bn%256))).setCell ⟨w.heap.size,3,none⟩ (vb (bn/256)));clear e0 e1 e2 e3 f0 f1 f2 f3 HO HB hmk;generalize ((((w0.setCell ⟨w.heap.size,0,none⟩ (vb (rn%256))).setCell ⟨w.heap.size,1,none⟩ (vb (rn/256))).setCell ⟨w.heap.size,2,none⟩ (vb (bn%256))).setCell ⟨w.heap.size,3,none⟩ (vb (bn/256)))=w1 at*;obtain⟨v2,w2,hrun,ho2,hs2⟩:=ik (c:=c) HO4.o HR4.o (by simp;omega) pI.o.size;have RA:eH 23 23 23 (aco (some ⟨w.heap.size,0,none⟩) 8 (8+l.length)) (aco a l.length c) w1 v2 w2:=⟨hrun⟩
 have yz:=az ho2;have HB2:=az (pI.o.trans hs2.below);clear hrun ho2 hs2;go_wp2_with (at_builtin;refine wpList_append_run rfl (.tmp 30) (.tmp 31) rfl rfl rfl RA.run ?_);go_ret;rw[HHD.o];exact⟨_,rfl,yz.o,HB2.o⟩
def foldl_perm {S A:Type}{f:S->A->S}{I:S->Prop}(hI:∀s x,I s->I (f s x)){l₁ l₂:List A}(p:l₁.Perm l₂)(comm:∀x∈l₁,∀y∈l₁,x≠y->∀s,I s->f (f s x) y=f (f s y) x) :
  ∀s,I s->l₁.foldl f s=l₂.foldl f s:=by
 induction p with
 |nil=>intro s _;rfl
 |cons x p ih =>
  intro s hs;exact ih (λa ha b hb=>comm a (adw _ ha) b (adw _ hb)) _ (hI s x hs)
 |swap x y l =>
  intro s hs;simp only[List.foldl_cons];by_cases e:x=y;rw[e];rw[comm y ai x ai (λh=>e h.symm) s hs]
 |trans p q ih1 ih2 =>
  intro s hs;rw[ih1 comm s hs];exact ih2 (λa ha b hb=>comm a (p.symm.subset ha) b (p.symm.subset hb)) s hs
def uu (g:Mg)(k:Int):Bool:=g.there k&&(g.blk k.toNat).l != 0
def Eb (x:gcs.aD):gcs.aD:={x with l:=x.l-1,s:=if x.s=2/\x.l-1=0 then 3 else x.s}
def oH (g:Mg)(k:Int):(g.drop k).2=if uu g k then g.put k.toNat (Eb (g.blk k.toNat)) else g:=by
 unfold Mg.drop uu;generalize g.blk k.toNat=x;cases h1:g.there k;rw[if_pos (ack rfl)];rfl;by_cases h2:x.l=0;rw[if_pos (acm h2),h2];rfl;have h3:(x.l != 0)=true:=by simp[h2]
 rw[if_neg (by simp[h2]),h3];rfl
def Bf (g:Mg)(x:gcs.aD)(h:i≠j):(g.put i x).blk j=g.blk j:=by
 simp only[Mg.blk,Mg.put,aah,List.getElem?_set];rw[if_neg h]
def xI (g:Mg)(x:gcs.aD)(k:Int)(h:0<=k->i≠k.toNat):(g.put i x).there k=g.there k/\(0<=k->(g.put i x).blk k.toNat=g.blk k.toNat):=by
 refine⟨?_,λh0=>Bf g x (h h0)⟩;by_cases h0:0<=k;have:=Bf g x (h h0);unfold Mg.there;rw[this];simp[Mg.put];unfold Mg.there;rw[decide_eq_false h0];rfl
def mJ {g:Mg}{k:Int}(h:uu g k=true):0<=k:=by
 unfold uu at h;simp only[ac8]at h;exact(Fj h.1).1
def Bg (g:Mg){b:Int}(ha:0<=a)(hab:a≠b)(x:gcs.aD):uu (g.put a.toNat x) b=uu g b:=by
 have h:=xI g (i:=a.toNat) x b (λhb=>aa);unfold uu;rw[h.1];by_cases hb:0<=b;rw[h.2 hb];have:g.there b=false:=by unfold Mg.there;rw[decide_eq_false hb];rfl
 rw[this];rfl
def Ec (g:Mg)(a b:Int):((g.drop a).2.drop b).2=((g.drop b).2.drop a).2:=by
 by_cases hab:a=b;rw[hab];have A:=oH g a;have B:=oH g b;cases ha:uu g a;rw[ha,if_neg ai]at A;cases hb:uu g b;rw[hb,if_neg ai]at B;rw[A,B,A];have h1:=Bg g (mJ hb) (λe=>hab e.symm) (Eb (g.blk b.toNat));rw[hb,if_pos rfl]at B;rw[A,B,oH _ a,h1,ha,if_neg ai];have h1:=Bg g (mJ ha) hab (Eb (g.blk a.toNat));rw[ha,if_pos rfl]at A;cases hb:uu g b;rw[hb,if_neg ai]at B;rw[A,B,A,oH _ b,h1,hb,if_neg ai];have h2:=Bg g (mJ hb) (λe=>hab e.symm) (Eb (g.blk b.toNat));have a0:=mJ ha
 have b0:=mJ hb;have e1:=(xI g (i:=a.toNat) (Eb (g.blk a.toNat)) b (λ_=>aa)).2 b0;have e2:=(xI g (i:=b.toNat) (Eb (g.blk b.toNat)) a (λ_=>aa)).2 a0;rw[hb,if_pos rfl]at B;rw[A,B,oH _ b,h1,hb,if_pos rfl,oH _ a,h2,ha,if_pos rfl,e1,e2];simp only[Mg.put];rw[List.set_comm _ _ aa]
def put_comm {m:Mp FP.cB}(h:MP.Ok m){b:Int}(u v:FP.cB)(hab:a≠b):MP.put (MP.put m a u) b v=MP.put (MP.put m b v) a u:=by
 refine MP.ext (MP.iJ (MP.iJ h _ _) _ _) (MP.iJ (MP.iJ h _ _) _ _) λk=>?_
 simp only[MP.get_put];by_cases h1:b=k;rw[if_pos h1,if_neg aa,if_pos h1];rw[if_neg h1];by_cases h2:a=k;rw[if_pos h2,if_pos h2];rw[if_neg h2,if_neg h2,if_neg h1]
def IC {m:Mp FP.cB}(h:MP.Ok m)(a b:Int):MP.del (MP.del m a) b=MP.del (MP.del m b) a:=by
 refine MP.ext (MP.jc (MP.jc h _) _) (MP.jc (MP.jc h _) _) λk=>?_
 rw[MP.dO (MP.jc h _),MP.dO (MP.jc h _),MP.dO h,MP.dO h];by_cases h1:a=k<;>by_cases h2:b=k<;>simp[h1,h2]
structure rH (c:NP.bX)(r b:Int)(s:FP.Sl):Prop where
 lL:s.g.ok c
 same:s.g.aC=r/\s.g.bad=b
 slow:Low s.bD
 kQ:Low s.gone
section
variable{c:NP.bX}{r b:Int}{s:FP.Sl}{x:Int×FP.cB}
def rH.take (h:rH c r b s)(hx:0<=x.1/\x.1<8192):rH c r b (s.take x):=by
 unfold FP.Sl.take;cases MP.get s.bD x.1 with
 |none=>exact⟨h.lL,h.same,h.slow.put hx _,h.kQ.del _⟩
 |some p =>
  have:=sP s.g p.block;exact⟨uQ h.lL _,⟨this.1.trans h.same.1,this.2.trans h.same.2⟩,h.slow.put hx _,h.kQ.del _⟩
def rH.strike (h:rH c r b s)(x:Int×FP.cB):rH c r b (s.strike x):=by
 unfold FP.Sl.strike;have:=sP s.g ((MP.get s.bD x.1).getD default).block;exact⟨uQ h.lL _,⟨this.1.trans h.same.1,this.2.trans h.same.2⟩,h.slow.del _,h.kQ⟩
variable{y:Int×FP.cB}
def OP (h1:MP.Ok s.bD)(h2:MP.Ok s.gone)(hxy:x.1≠y.1):(s.take x).take y=(s.take y).take x:=by
 have e1:MP.get (MP.put s.bD x.1 x.2) y.1=MP.get s.bD y.1:=by rw[MP.get_put,if_neg hxy]
 have e2:MP.get (MP.put s.bD y.1 y.2) x.1=MP.get s.bD x.1:=by rw[MP.get_put,if_neg (λe=>hxy e.symm)]
 simp only[FP.Sl.take,e1,e2,put_comm h1 x.2 y.2 hxy,IC h2 x.1 y.1];cases MP.get s.bD x.1<;>cases MP.get s.bD y.1<;>simp[Ec]
def IE (h1:MP.Ok s.bD)(hxy:x.1≠y.1):(s.strike x).strike y=(s.strike y).strike x:=by
 have e1:MP.get (MP.del s.bD x.1) y.1=MP.get s.bD y.1:=by rw[MP.dO h1,if_neg hxy]
 have e2:MP.get (MP.del s.bD y.1) x.1=MP.get s.bD x.1:=by rw[MP.dO h1,if_neg (λe=>hxy e.symm)]
 simp only[FP.Sl.strike,e1,e2,IC h1 x.1 y.1,Ec]
def MN {m:Mp FP.cB}(h:MP.Ok m)(hx:x∈m)(hy:y∈m)(e:x≠y):x.1≠y.1:=by
 intro e1;have h1:=MP.dR h hx;have h2:=MP.dR h hy;rw[e1,h2]at h1;injection h1 with h1;exact e (Prod.ext e1 h1.symm)
def Kz {m done:Mp FP.cB}(hm:MP.Ok m)(hp:done.Perm m)(h1:MP.Ok s.bD)(h2:MP.Ok s.gone):done.foldl FP.Sl.take s=m.foldl FP.Sl.take s :=
 foldl_perm (I:=λs=>MP.Ok s.bD/\MP.Ok s.gone) (λ_ _ h=>⟨MP.iJ h.1 _ _,MP.jc h.2 _⟩) hp (λ_ hx _ hy e _ hs=>OP hs.1 hs.2 (MN hm (hp.subset hx) (hp.subset hy) e)) s ⟨h1,h2⟩
def Fz {m done:Mp FP.cB}(hm:MP.Ok m)(hp:done.Perm m)(h1:MP.Ok s.bD):done.foldl FP.Sl.strike s=m.foldl FP.Sl.strike s :=
 foldl_perm (I:=λs=>MP.Ok s.bD) (λ_ _ h=>MP.jc h _) hp (λ_ hx _ hy e _ hs=>IE hs (MN hm (hp.subset hx) (hp.subset hy) e)) s h1
def rH.takes {m:Mp FP.cB}(hm:∀x∈m,0<=x.1/\x.1<8192)(h:rH c r b s):rH c r b (m.foldl FP.Sl.take s):=by
 induction m generalizing s with
 |nil=>exact h
 |cons x m ih=>exact ih (λy hy=>hm y (adw _ hy)) (h.take (hm x ai))
def rH.strikes (m:Mp FP.cB)(h:rH c r b s):rH c r b (m.foldl FP.Sl.strike s):=by
 induction m generalizing s with
 |nil=>exact h
 |cons x m ih=>exact ih (h.strike x)
def WW (m:Mp FP.cB)(s:FP.Sl):(m.foldl FP.Sl.strike s).gone=s.gone:=by
 induction m generalizing s with
 |nil=>rfl
 |cons x m ih=>exact ih _
end
def rJ (f1:FP.Ft)(p:FP.cB):FP.Sl:=(MP.put f1.now 0 p).foldl FP.Sl.take ⟨f1.g,f1.bD,f1.gone⟩
def sQ (s1:FP.Sl):FP.Sl:=s1.gone.foldl FP.Sl.strike s1
def IG (f1:FP.Ft)(p:FP.cB)(text:List Nat):FP.Ft :=
 {f1 with g:=(sQ (rJ f1 p)).g,bD:=(sQ (rJ f1 p)).bD,now:=[],gone:=[],aM:=f1.aM+1,text:=text}
def o7 {aC bad:Int}{text:List Nat}(ht:∀y∈text,y<256):∀y∈FP.jJ aC bad text,y<256:=by
 intro y hy;unfold FP.jJ at hy;simp only[List.cons_append,List.nil_append,List.mem_cons]at hy;rcases hy with rfl|rfl|rfl|rfl|rfl|rfl|rfl|rfl|hy;all_goals first|omega|exact ht y hy
structure zO (aA:Nat)(w:acL)(f:Nat)(X:dm)(r b:Nat)(left:Mp FP.cB)(wr:acL)(Y:dm):Prop where
 goes:aQ aA w f X wr Y
 it:gL wr r b .u32 dz left
 which:b=Y.bn\/b=Y.bg
 rf:¬Y.foot f r
 iT:w.heap.size<=r/\aA<=w.heap.size
section
variable{wr:acL}{r b:Nat}{Y:dm}{left:Mp FP.cB}{m:Mp FP.cB}
def S9 {enc:α->acK}{l:Mp α}(h:gL wr r b K enc l):∀t cur,¬aD wr r t cur:=by
 intro t cur hb;obtain⟨_,_,_,_,_,_,h2,_⟩:=h;unfold aD at hb;rw[hb]at h2;cases h2
def zO.old (h:zO aA w f X r b left wr Y)(q:acN wr.heap.size wr w'):zO aA w f X r b left w' Y:=⟨h.goes.old q,h.it.old q,h.which,h.rf,h.iT⟩
def zO.adx (h:zO aA w f X r b left wr Y):b≠Y.bs:=by
 rcases h.which with e|e;rw[e];exact h.goes.at_.ne.1.symm;rw[e];exact h.goes.at_.ne.2.1.symm
def zO.begin (h:aQ aA w f X wr Y)(hb:b=Y.bn\/b=Y.bg)(hbase:aA<=w.heap.size)(hm:bz wr b .u32 dz m):∃w',xk 149 (.map (some b)) (.pointer (some ⟨wr.heap.size,0,none⟩)) wr w'/\zO aA w f X wr.heap.size b m w' Y:=by
 obtain⟨w',h1,h2,h3,h4⟩:=hm.range (P:=prog) underlying149;exact⟨w',⟨h1⟩,h.old h3,h2,hb,λe=>by have:=h.at_.lt _ e;omega,h.size,hbase⟩
def zO.next (h:zO aA w f X r b left wr Y):(left=[]/\kZ (adj (some ⟨r,0,none⟩)) (adg #[acg false]) wr wr) \/
  ∃(k:Int) (pb pp:Int) (w':acL),(k,(⟨pb,pp⟩:FP.cB))∈left/\kZ (adj (some ⟨r,0,none⟩)) (adg #[acg true,.int .u32 k,adA #[vi pb,vi pp]]) wr w'/\zO aA w f X r b (MP.del left k) w' Y/\(MP.del left k).length<left.length/\left.Perm ((k,⟨pb,pp⟩)::MP.del left k) /\
   (Instr.entry (adj (some ⟨r,0,none⟩))).run prog w'=.ok (adg #[.int .u32 k,adA #[vi pb,vi pp]]) w':=by
 rcases h.it.next (P:=prog) with⟨h1,h2⟩|⟨⟨k,pb,pp⟩,w',h1,h2,h3,h4,h5,h6⟩;exact ack ⟨h1,⟨h2⟩⟩;have hok:MP.Ok left:=by obtain⟨_,_,_,_,_,_,_,_,_,_,_,_,hok⟩:=h.it;exact hok
 have hg:=MP.dR hok h1;refine acm ⟨k,pb,pp,w',h1,⟨h2⟩,⟨?_,h3,h.which,h.rf,h.iT⟩,by have:=MP.o8 hg;dsimp only at this ⊢;omega,MP.fO hg,h6⟩;have hF:bP aA w' f Y:=h.goes.at_.aJ h4 (λn e=>by subst e;exact⟨abX h.iT.2 h.iT.1,λt cur hb=>(S9 h.it t cur hb).elim⟩) (λn e e2=>h.rf (e2▸e));exact h.goes.iT ⟨h4.os,h4.tape,h4.output,h4.size,λi hi=>h4.block i (Nat.lt_of_lt_of_le hi h.goes.size) (by have:=h.iT.1;omega)⟩ hF
def zO.drop (h:zO aA w f X r b left wr Y)(q:bJ aA wr Y.m Y.G Y.M w' g' Y.M):zO aA w f X r b left w' {Y with G:=Y.G.lay g'}:=by
 have hb:¬foot1 Y.m Y.G Y.M b:=by
  rcases h.which with e|e;rw[e];exact(h.goes.at_.gY h.goes.at_.now).2.2;rw[e];exact(h.goes.at_.gY h.goes.at_.gone).2.2
 have hr:¬foot1 Y.m Y.G Y.M r:=λe=>h.rf (acm (acm (acm (acm (acm e)))))
 have hgo:=h.goes.at_.goes q;refine⟨h.goes.trans hgo,h.it.aJ q.aJ hb hr,h.which,λe=>?_,h.iT⟩;rcases hgo.foot _ e with e|e;exact h.rf e;have:=h.it.lt.1;omega
def zO.bD (h:zO aA w f X r b left wr Y){S':Mp FP.cB}(g:wr.grownBy w' (some Y.bs))(hm:bz w' Y.bs .u32 dz S'):zO aA w f X r b left w' {Y with S:=S'}:=by
 have hl:=h.it.lt;refine⟨h.goes.trans (h.goes.at_.MK g hm),h.it.of_heap (g.block b hl.2 (λe=>?_)) (g.block r hl.1 (λe=>?_)),h.which,h.rf,h.iT⟩;injection e with e;exact h.adx e;injection e with e;exact h.rf (acm (ack e))
def zO.gone (h:zO aA w f X r b left wr Y){D':Mp FP.cB}(hb:b=Y.bn)(g:wr.grownBy w' (some Y.bg))(hm:bz w' Y.bg .u32 dz D'):zO aA w f X r b left w' {Y with D:=D'}:=by
 have hl:=h.it.lt;refine⟨h.goes.trans (h.goes.at_.zM g hm),h.it.of_heap (g.block b hl.2 (λe=>?_)) (g.block r hl.1 (λe=>?_)),h.which,h.rf,h.iT⟩;injection e with e;rw[hb]at e;exact h.goes.at_.ne.2.2 e;injection e with e;exact h.rf (acm (acm (acm (ack e))))
def Bh (h:bP aA w f X)(hx:X.Fit)(k:Int):ac4 prog 109 #[ptr X.m,vi k] w λe w'=>e=ab4 (vi (X.G.view.drop k).1)/\bJ aA w X.m X.G X.M w' (X.G.view.drop k).2 X.M :=
 mgr.rq h.held hx.lL hx.bI.2.2.2.1 k
def bJ.cells {m:Nat}{G:iL}(q:bJ aA w m G M w' g' M){p:Addr}{v:acK}(hc:w.cell? p=some v)(hn:¬foot1 m G M p.block):w'.cell? p=some v:=q.aJ.cell hc hn
def Fit.sl {F:FP.Ft}(h:Fit F){s:FP.Sl}(k:rH F.c F.g.aC F.g.bad s):Fit {F with g:=s.g,bD:=s.bD,gone:=s.gone} :=
 ⟨h.good,k.lL,h.res,by dsimp only;rw[k.same.1,k.same.2];exact h.qE,k.slow,h.oG,k.kQ,h.rz,h.lC⟩
end
def aQ.fill {Y:dm}(h:aQ aA w f X W Y)(hg:w.heap.size<=g)(hb:aD W g 165 #[u0,u1])(hn:¬Y.foot f g)(hbase:aA<=g)(u v:acK) :
  aD ((W.setCell ⟨g,0,none⟩ u).setCell ⟨g,1,none⟩ v) g 165 #[u,v]/\aQ aA w f X ((W.setCell ⟨g,0,none⟩ u).setCell ⟨g,1,none⟩ v) Y :=
 ⟨(hb.bB 0 u).bB 1 v,h.iT (nH u v h.size hg) (h.at_.aJ (lY W g 0 1 u v) (λn e=>by subst e;exact Loose.blk hbase hb) (λn e e2=>hn (e2▸e)))⟩
def aaJ (x y:Int)(w:acL):(Instr.field 165 (adA #[vi x,vi y]) 0).run prog w=.ok (vi x) w:=ah
def aQ.fresh {wr:acL}{Z:dm}(h:aQ aA w f X wr Z)(hbase:aA<=wr.heap.size) :
  aQ aA w f X ((((wr.alloc (.map #[] 0)).alloc (.map #[] 0)).setCell ⟨f,6,none⟩ (.map (some wr.heap.size))).setCell ⟨f,7,none⟩ (.map (some (wr.heap.size+1)))) {Z with bn:=wr.heap.size,N:=[],bg:=wr.heap.size+1,D:=[]}:=by
 have hb:acN wr.heap.size wr ((wr.alloc (.map #[] 0)).alloc (.map #[] 0)):=ax.alloc ai _;have q2:=lY ((wr.alloc (.map #[] 0)).alloc (.map #[] 0)) f 6 7 (.map (some wr.heap.size)) (.map (some (wr.heap.size+1)));have q:aP (λn=>n=f) wr ((((wr.alloc (.map #[] 0)).alloc (.map #[] 0)).setCell ⟨f,6,none⟩ (.map (some wr.heap.size))).setCell ⟨f,7,none⟩ (.map (some (wr.heap.size+1)))) :=
  (aP.of_below (F:=λn=>n=f) hb).trans q2 (λ_ _ e=>e)
 have hlt:=h.at_.obj.lt;have m1:bz ((wr.alloc (.map #[] 0)).alloc (.map #[] 0)) wr.heap.size .u32 dz []:=(bz.made wr .u32 dz).alloc _;have m2:bz ((wr.alloc (.map #[] 0)).alloc (.map #[] 0)) (wr.heap.size+1) .u32 dz []:=by
  have:=bz.made (wr.alloc (.map #[] 0)) .u32 dz;simpa using this
 have hl:∀n,n=f->Loose aA wr n:=λn e=>h.at_.loose n (ack e)
 refine h.trans (h.at_.fields q (((h.at_.obj.old hb).bB 6 _).bB 7 _) ⟨rfl,rfl,rfl⟩ ⟨h.at_.text.fD q hl,h.at_.lC⟩ ⟨rfl,rfl⟩ ⟨m1.aJ q2 (λe=>?_),acm aj⟩ ⟨m2.aJ q2 (λe=>?_),acm (by dsimp only;omega)⟩ ⟨rfl,rfl,rfl⟩ (by dsimp only;omega) hbase);omega;omega
def vW (c:NP.bX):∀n,0<=FP.badTo c n/\FP.badTo c n<=n
 |0=>⟨Int.le_refl _,Int.le_refl _⟩
 |n+1=>by
  have:=vW c n
  unfold FP.badTo
  split<;>constructor<;>omega
def uw (h:aT aA w k M)(hok:M.view.ok):ac4 prog 84 #[ptr k] w λe w'=>e=ab4 (vi (FP.gX M.view))/\acN w.heap.size w w':=by
 have H:=az h;have HL:=az (pE hok);have hB:M.B<=128:=by
  have:NP.bH M.B M.P M.S=true:=hok.right;unfold NP.bH at this;simp only[ac8,decide_eq_true_eq]at this;omega
 have HV:Hid (FP.gX M.view=FP.badTo M.view M.B):=az rfl;clear h hok;have hf0:=aaG M.B M.P M.S;go_in;go_wp2_with fail;refine(iZ H.o).mono ?_;rintro e w1 ⟨rfl,hb1⟩;have HB1:=az hb1;clear hb1;go_wp2_with fail;go_loopw [3,8] (λn i wr=>∃j:Nat,j<=M.B/\i=vi j/\n=vi (FP.badTo M.view j)/\acN w.heap.size w wr) (λ_ i _=>M.B-(intOf i).toNat)
 case atStart=>exact⟨0,Nat.zero_le _,rfl,rfl,HB1.o⟩
 case round =>
  obtain⟨j,hj,rfl,rfl,hb⟩:=hrel;have hle:=vW M.view j;have HST:Hid (FP.badTo M.view (j+1)=FP.badTo M.view j+(if NP.qO M.view j then 1 else 0)):=az rfl;by_cases hlt:j<M.B
  ·have HBM:=az (AL M j HL.o);have HB2:=az hb;generalize FP.badTo M.view j=n0 at*;generalize NP.qO M.view j=q at*;go_wp2_with fail;refine(EX (H.o.old HB2.o) j).mono ?_;rintro e w' ⟨rfl,rfl⟩;rw[HBM.o];cases q;all_goals
    go_wp2;go_roundw
    case rel=>exact⟨j+1,aa,by go_num,by rw[HST.o];simp,HB2.o⟩
    case measure=>simp[intOf];omega
  go_wp2;go_ret;obtain rfl:j=M.B:=aa;exact⟨bS HV.o.symm,hb⟩
end ft
namespace FP
open mgr
def z56:List Nat:=List.replicate 56 0
def dummy:Ft:=⟨NP.blank 8 4 64,⟨[],0,0,0,false⟩,0,0,[],[],[],[],0,0,[],false⟩
end FP
namespace ft
open RowKit mgr
abbrev encI (n:Int):acK:=vi n
def Ta (w:acL):(zeroValue 3).run prog w=.ok (vi 0) w:=ah
def mK (w:acL)(n:Nat):dx aA (w.alloc (ach (madeCells #[vb 0] n) 5)) (some ⟨w.heap.size,0,none⟩) (List.replicate n 0):=by
 refine⟨⟨λx hx=>by rw[List.eq_of_mem_replicate hx];decide,acm ⟨w.heap.size,0,rfl,λi hi=>?_⟩⟩,acm ⟨w.heap.size,0,rfl,Safe.byte (aD.new w _ _)⟩⟩;rw[abP]at hi;rw[(aD.new w _ _).cell,Nat.zero_add,<-Array.getElem?_toList,toList_madeCells_one,List.getElem?_replicate,if_pos hi,aah,List.getElem?_replicate,if_pos hi];rfl
end ft
namespace pl
open RowKit mgr ft
structure Bi where
 f:Nat
 T:Int
 F:Int
 P:Int
 I:Int
 sz:Int
 bu:Nat
 bd:Nat
 U:Mp Int
 D:Mp acK
abbrev Bi.cs (Y:Bi):Array acK:=#[ptr Y.f,vi Y.T,vi Y.F,vi Y.P,vi Y.I,vi Y.sz,.map (some Y.bu),.map (some Y.bd)]
structure fE (w:acL)(q:Nat)(Y:Bi):Prop where
 obj:aD w q 96 Y.cs
 used:bz w Y.bu .i64 encI Y.U
 iI:bz w Y.bd .i64 (λv:acK=>v) Y.D
 ne:Y.bu≠Y.bd
variable{q:Nat}{Y:Bi}
def Bi.foot (Y:Bi)(q n:Nat):Prop:=n=q\/n=Y.bu\/n=Y.bd
def fE.aJ (h:fE w q Y)(g:aP F w w')(hn:∀n,Y.foot q n->¬F n):fE w' q Y :=
 ⟨h.obj.aJ g (hn _ (ack rfl)),h.used.aJ g (hn _ (acm (ack rfl))),h.iI.aJ g (hn _ (acm (acm rfl))),h.ne⟩
def fE.old (h:fE w q Y)(g:acN w.heap.size w w'):fE w' q Y:=h.aJ (F:=λ_=>False) (aP.of_below g) (λ_ _ e=>e)
def fE.lt (h:fE w q Y):∀n,Y.foot q n->n<w.heap.size:=by
 intro n e;rcases e with e|e|e;rw[e];exact h.obj.lt;rw[e];exact h.used.lt;rw[e];exact h.iI.lt
def fE.ahn (h:fE w q Y)(n m:Int):∃w',ER 93 (.map (some Y.bu)) (vi n) (vi m) w w'/\fE w' q {Y with U:=MP.put Y.U n m}/\w.grownBy w' (some Y.bu):=by
 obtain⟨w',h1,h2,h3⟩:=h.used.update (P:=prog) underlying93 underlying3 n m;have c:aP (λk=>k=Y.bu) w w':=(aP.refl _ _).grown h3 (λk e=>by cases e;exact .inl rfl);exact⟨w',⟨h1⟩,⟨h.obj.aJ c (λe=>h.used.dM h.obj e.symm),h2,h.iI.aJ c (λe=>h.ne e.symm),h.ne⟩,h3⟩
def fE.ady (h:fE w q Y)(n:Int)(v:acK):∃w',ER 94 (.map (some Y.bd)) (vi n) v w w'/\fE w' q {Y with D:=MP.put Y.D n v}/\w.grownBy w' (some Y.bd):=by
 obtain⟨w',h1,h2,h3⟩:=h.iI.update (P:=prog) underlying94 underlying3 n v;have c:aP (λk=>k=Y.bd) w w':=(aP.refl _ _).grown h3 (λk e=>by cases e;exact .inl rfl);exact⟨w',⟨h1⟩,⟨h.obj.aJ c (λe=>h.iI.dM h.obj e.symm),h.used.aJ c h.ne,h2,h.ne⟩,h3⟩
def fE.aho (h:fE w q Y)(n:Int):∃w',J7 93 3 (.map (some Y.bu)) (vi n) w w'/\fE w' q {Y with U:=MP.del Y.U n}/\w.grownBy w' (some Y.bu):=by
 obtain⟨w',h1,h2,h3⟩:=h.used.delete (P:=prog) underlying93 underlying3 n;have c:aP (λk=>k=Y.bu) w w':=(aP.refl _ _).grown h3 (λk e=>by cases e;exact .inl rfl);exact⟨w',⟨h1⟩,⟨h.obj.aJ c (λe=>h.used.dM h.obj e.symm),h2,h.iI.aJ c (λe=>h.ne e.symm),h.ne⟩,h3⟩
def fE.ahp (h:fE w q Y)(n:Int):∃w',J7 94 3 (.map (some Y.bd)) (vi n) w w'/\fE w' q {Y with D:=MP.del Y.D n}/\w.grownBy w' (some Y.bd):=by
 obtain⟨w',h1,h2,h3⟩:=h.iI.delete (P:=prog) underlying94 underlying3 n;have c:aP (λk=>k=Y.bd) w w':=(aP.refl _ _).grown h3 (λk e=>by cases e;exact .inl rfl);exact⟨w',⟨h1⟩,⟨h.obj.aJ c (λe=>h.iI.dM h.obj e.symm),h.used.aJ c h.ne,h2,h.ne⟩,h3⟩
def Bj (w:acL):(zeroValue 23).run prog w=.ok (aco none 0 0) w:=ah
def fE.adz (h:fE w q Y)(n:Int):(abw 93 (.map (some Y.bu)) (vi n) true).run prog w=.ok (.tuple #[((MP.get Y.U n).map encI).getD (vi 0),.bool (MP.has Y.U n)]) w :=
 h.used.sF underlying93 underlying3 (Ta w) n
def fE.Zf (h:fE w q Y)(n:Int):(abw 94 (.map (some Y.bd)) (vi n) true).run prog w=.ok (.tuple #[((MP.get Y.D n).map λv=>v).getD (.slice none 0 0),.bool (MP.has Y.D n)]) w :=
 h.iI.sF underlying94 underlying3 (Bj w) n
def Bi.given (Y:Bi)(n:Int):Bool:=decide (Y.F<=n)&&decide (n-Y.F<Y.P)
def Bi.there (Y:Bi)(n:Int):Bool:=(decide (1<=n)&&decide (n<=Y.T))||MP.has Y.U n
def Ed (h:fE w q Y)(n:Int)(hb: -1000000<=n/\n<=1000000/\ -1000000<=Y.F/\Y.F<=1000000):ac4 prog 59 #[ptr q,vi n] w λe w'=>e=ab4 (acg (Y.given n))/\acN w.heap.size w w':=by
 have e2:w.cell? ⟨q,2,none⟩=some (vi Y.F):=h.obj.cell 2;have e3:w.cell? ⟨q,3,none⟩=some (vi Y.P):=h.obj.cell 3;have HG:Hid (Y.given n=(decide (Y.F<=n)&&decide (n-Y.F<Y.P))):=az rfl;have w1:adk.wrap (n-Y.F)=n-Y.F:=adl _ aa;clear h hb;generalize Y.given n=gv at*;have e2:=Sub.cell e2;have e3:=Sub.cell e3;go_in;by_cases hF:Y.F<=n
 ·go_upto_region 1 with fail;refine aZ ah ah ?_;repeat (go_big_quiet_step (fail))
  refine adE ?_;rintro _ ⟨nq,rfl⟩;have HB:=az nq.below;go_wp2;go_ret;exact⟨aU (by rw[HG.o];simp[hF]),HB.o⟩
 go_upto_region 1 with fail;refine aZ ah ah ?_;repeat (go_big_quiet_step (fail))
 refine adE ?_;rintro _ ⟨nq,rfl⟩;have HB:=az nq.below;go_wp2;go_ret;exact⟨aU (by rw[HG.o];simp;intros;omega),HB.o⟩
def dP (h:fE w q Y)(n:Int):ac4 prog 60 #[ptr q,vi n] w λe w'=>e=ab4 (acg (Y.there n))/\w'=w:=by
 have e1:w.cell? ⟨q,1,none⟩=some (vi Y.T):=h.obj.cell 1;have e6:w.cell? ⟨q,6,none⟩=some (.map (some Y.bu)):=h.obj.cell 6;have L:=h.adz n;have HG:Hid (Y.there n=((decide (1<=n)&&decide (n<=Y.T))||MP.has Y.U n)):=az rfl;clear h;generalize Y.there n=gv at*;go_in;by_cases h1:1<=n
 ·by_cases h2:n<=Y.T
  ·go_wp2;go_ret;exact⟨aU (by rw[HG.o];simp[h1,h2]),rfl⟩
  go_wp2;go_ret;exact⟨aU (by rw[HG.o];simp;intros;omega),rfl⟩
 go_wp2;go_ret;exact⟨aU (by rw[HG.o];simp;intros;omega),rfl⟩
def cu (h:fE w q Y)(n:Int):ac4 prog 62 #[ptr q,vi n] w λe w'=>e=ab4 (vi (if Y.there n then 0 else 1))/\w'=w:=by
 have H:=az (dP h n);clear h;generalize Y.there n=b at*;go_in;go_wp2_with fail;refine H.o.mono ?_;rintro e w' ⟨rfl,rfl⟩;cases b
 ·go_wp2;go_ret;exact⟨rfl,rfl⟩
 go_wp2;go_ret;exact⟨rfl,rfl⟩
def fP (h:fE w q Y)(n:Int)(hn:Y.P-Y.U.length=n)(hb:0<=Y.P/\Y.P<=1000000/\Y.U.length<=1000000):ac4 prog 21 #[ptr q] w λe w'=>e=.returned (vi n)/\acN w.heap.size w w':=by
 have e3:w.cell? ⟨q,3,none⟩=some (vi Y.P):=h.obj.cell 3;have e6:w.cell? ⟨q,6,none⟩=some (.map (some Y.bu)):=h.obj.cell 6;have l:∀n:Sub w,(Builtin.len_ #[93] 3 #[.map (some Y.bu)]).run prog n.w=.ok (goInt Y.U.length) n.w:=λn=>(h.used.old n.below).len underlying93 _;have w1:adk.wrap (Y.P-Y.U.length)=n:=by rw[hn];exact adl _ aa
 clear h hn hb;have e3:=Sub.cell e3;have e6:=Sub.cell e6;go_in;go_upto_region 3 with fail;refine aZ ah ah ?_;repeat (go_big_quiet_step (fail))
 refine adE ?_;rintro _ ⟨nq,rfl⟩;have HB:=az nq.below;go_wp2;go_ret;exact⟨rfl,HB.o⟩
def mG (h:fE w q Y)(n:Int)(hb: -1000000<=n/\n<=1000000/\ -1000000<=Y.F/\Y.F<=1000000)(hg:Y.given n=true)(ht:Y.there n=true):ac4 prog 48 #[ptr q,vi n] w λe w' =>
  e=ab4 (vi 0)/\fE w' q {Y with U:=MP.del Y.U n,D:=MP.del Y.D n}/\aP (λn=>n=Y.bu\/n=Y.bd) w w':=by
 have H:=az h;have HG:=az (Ed h n hb);rw[hg]at HG;have HA:=az (cu h n);rw[ht]at HA;clear h hg ht hb;go_in;go_wp2_with fail;refine HA.o.mono ?_;rintro e w' ⟨rfl,rfl⟩;go_wp2_with fail;refine HG.o.mono ?_;rintro e w1 ⟨rfl,hb1⟩;have HB1:=az hb1;have H1:=az (H.o.old hb1);clear hb1;obtain⟨w2,hu,h2,hg2⟩:=H1.o.aho n;have HU:=az hu;have H2:=az h2;have JQ:Hid (aP (λn=>n=Y.bu\/n=Y.bd) w' w2):=az ((aP.of_below HB1.o).grown hg2 (λk e=>by cases e;exact ack (ack rfl)));have e6:w1.cell? ⟨q,6,none⟩=some (.map (some Y.bu)):=H1.o.obj.cell 6;clear hu h2 hg2;obtain⟨w3,hu,h3,hg3⟩:=H2.o.ahp n
 have II:=az hu;have H3:=az h3;have Ij:Hid (aP (λn=>n=Y.bu\/n=Y.bd) w' w3):=az (JQ.o.grown hg3 (λk e=>by cases e;exact ack (acm rfl)));have e7:w2.cell? ⟨q,7,none⟩=some (.map (some Y.bd)):=H2.o.obj.cell 7;clear hu h3 hg3;go_wp2_with (at_delete;first|(refine eu rfl (.tmp 19) (.tmp 20) rfl rfl rfl (HU.o.run _) ?_)|(refine eu rfl (.tmp 24) (.tmp 25) rfl rfl rfl (II.o.run _) ?_));go_ret;exact⟨rfl,H3.o,Ij.o⟩
variable{f:Nat}{X:dm}
def MO (w:acL)(K:IntKind)(enc:α->acK):bz ((w.alloc (.map #[] 0)).alloc (.map #[] 0)) (w.heap.size+1) K enc []:=by
 have:=bz.made (w.alloc (.map #[] 0)) K enc;rwa[size_alloc]at this
def WX (W:acL)(g f:Nat)(T F P I s:Int)(bu bd:Nat)(hg:g=W.heap.size)(hu:bz W bu .i64 encI [])(hd:bz W bd .i64 (λv:acK=>v) [])(ne:bu≠bd) :
  fE (W.alloc (ach #[ptr f,vi T,vi F,vi P,vi I,vi s,.map (some bu),.map (some bd)] 96)) g ⟨f,T,F,P,I,s,bu,bd,[],[]⟩:=by
 subst hg;exact⟨aD.new _ _ _,hu.alloc _,hd.alloc _,ne⟩
def bz.Zg {b:Nat}{enc:α->acK}{m:Mp α}(h:bz w b K enc m):bz w.drew b K enc m:=h.of_heap rfl
def Tc (w:acL)(f:Nat)(T F P I s:Int)(e:Ending)(w':acL):Prop :=
 ∃q bu bd,e=ab4 (adg #[ptr q,vi 0])/\fE w' q ⟨f,T,F,P,I,s,bu,bd,[],[]⟩/\(w.heap.size<=q/\w.heap.size<=bu/\w.heap.size<=bd)/\acN w.heap.size w w'
def AQ (h:bP aA w f X)(hx:X.Fit)(T F P I:Int)(hT:1<=T/\T<=8192)(hF:F=T+1)(hP:1<=P/\P<=X.view.cap-F)(hc:X.view.cap<=100000) :
  ac4 prog 51 #[ptr f,adA #[vi T,vi F,vi P,vi I],aco none 0 0] w (Tc w f T F P I (X.tx.length+8)):=by
 have H:=az h;have HX:=az hx;have htl:=hx.lC;have l1:adk.wrap (T+1)=F:=by rw[hF];exact adl _ aa
 have l2:adk.wrap (X.view.cap-F)=X.view.cap-F:=adl _ aa;have l3:adk.wrap ((X.tx.length:Int)+8)=(X.tx.length:Int)+8:=adl _ aa;have q1:¬T<1:=aa;have q2:¬P<1:=aa;have q3:(F != F)=false:=ai;have q4:¬8192<T:=aa;have q5:¬X.view.cap-F<P:=aa;clear h hx hF;go_in;go_upto_region 3 with fail;refine mD λw1 HB1 G1=>?_
 obtain⟨gl,hgl⟩:∃gl,gl=w.heap.size:=⟨_,rfl⟩;rw[<-hgl]at G1 ⊢;clear hgl;have H1:=az (H.o.old HB1.o);have JS:Hid (∀n:Sub w1,ac4 prog 89 #[ptr f] n.w λe w'=>e=ab4 (vi X.view.cap)/\acN n.w.heap.size n.w w'):=az (λn=>pF (H1.o.old n.below) HX.o);have g0:w1.cell? ⟨gl,0,none⟩=some (vi T):=G1.o.cell 0;have g1:w1.cell? ⟨gl,1,none⟩=some (vi F):=G1.o.cell 1;have g2:w1.cell? ⟨gl,2,none⟩=some (vi P):=G1.o.cell 2;have g0:=Sub.cell g0;have g1:=Sub.cell g1;have g2:=Sub.cell g2;generalize X.view.cap=cap at*;refine aZ ah ah ?_;repeat (go_big_quiet_step (exact fM (JS.o _)))
 refine adE ?_;rintro _ ⟨nq,rfl⟩;have HB3:=az (HB1.o.trans (nq.below.mono HB1.o.size));have H3:=az (H1.o.old nq.below);have G3:=az (G1.o.old nq.below);clear g0 g1 g2 JS G1 H1 HB1 q1 q2 q3 q4 q5 l1 l2;generalize nq.w=w3 at*;go_upto_region 5 with fail;have hmm:=@run_makeMap prog;have HK:Hid (∀W:acL,acN w3.heap.size w3 W->(W.cell? ⟨gl,0,none⟩=some (vi T)/\W.cell? ⟨gl,1,none⟩=some (vi F)/\W.cell? ⟨gl,2,none⟩=some (vi P)/\W.cell? ⟨gl,3,none⟩=some (vi I))) :=
  az (λW hb=>⟨(G3.o.old hb).cell 0,(G3.o.old hb).cell 1,(G3.o.old hb).cell 2,(G3.o.old hb).cell 3⟩)
 have HA1:Hid (∀(W:acL) o,acN w3.heap.size w3 W->acN w3.heap.size w3 (W.alloc o)):=az (λW o h=>h.alloc h.size o);have HA2:Hid (∀W:acL,acN w3.heap.size w3 W->acN w3.heap.size w3 W.drew):=az (λW h=>h.drew);have OQ:Hid (∀W W':acL,acN W.heap.size W W'->acN w3.heap.size w3 W->acN w3.heap.size w3 W'):=az (λW W' q h=>h.trans (q.mono h.size));have QU:Hid (acN w3.heap.size w3 w3):=az ak;have lX:Hid (∀y∈X.tx,y<256):=az H3.o.text.row.small;have HTX:Hid (∀W:acL,acN w3.heap.size w3 W->ac4 prog 90 #[ptr f] W λe w'=>∃v,e=ab4 v/\Own w' W.heap.size v X.tx/\acN W.heap.size W w'):=az (λW hb=>SN (H3.o.old hb) HX.o)
 go_cut [8] from 46 to 55 (λv8 wx=>∃q bu bd,v8=ptr q/\Hid (fE wx q ⟨f,T,F,P,I,X.tx.length+8,bu,bd,[],[]⟩)/\Hid (w3.heap.size<=q/\w3.heap.size<=bu/\w3.heap.size<=bd)/\Hid (acN w3.heap.size w3 wx))
 case first =>
  go_region_held3 (λW=>W.cell? ⟨gl,0,none⟩=some (vi T)/\W.cell? ⟨gl,1,none⟩=some (vi F)/\W.cell? ⟨gl,2,none⟩=some (vi P)/\W.cell? ⟨gl,3,none⟩=some (vi I))
   (exact HK.o _ (by repeat first|exact QU.o|(refine OQ.o _ _ (by assumption) ?_)|(refine HA1.o _ _ ?_)|(refine HA2.o _ ?_)))
   (first|(go_at_call 90;refine(HTX.o _ (by repeat first|exact QU.o|(refine HA1.o _ _ ?_)|(refine HA2.o _ ?_))).mono ?_;rintro e w5 ⟨v5,rfl,jT,hb5⟩;obtain⟨a5,k5,rfl,_,_,_,_⟩:=jT.Db (aA:=0) lX.o))
  all_goals
   have hsz:=hb5.size;simp at hsz;go_wp2;go_meet;refine⟨_,_,_,rfl,az (WX _ _ _ _ _ _ _ _ _ _ ai ?_ ?_ ?_),az ⟨?_,?_,?_⟩,az ?_⟩;first
    |exact bz.made _ _ _
    |exact(bz.made _ _ _).alloc _
    |exact MO _ _ _
    |exact(bz.Zg (bz.made w3 _ _)).old hb5
    |exact((bz.Zg (bz.made w3 _ _)).old hb5).alloc _
    |exact(bz.Zg ((bz.made w3 _ _).alloc _)).old hb5
    |exact(bz.Zg (MO w3 _ _)).old hb5
   first
    |exact bz.made _ _ _
    |exact(bz.made _ _ _).alloc _
    |exact MO _ _ _
    |exact(bz.Zg (bz.made w3 _ _)).old hb5
    |exact((bz.Zg (bz.made w3 _ _)).old hb5).alloc _
    |exact(bz.Zg ((bz.made w3 _ _).alloc _)).old hb5
    |exact(bz.Zg (MO w3 _ _)).old hb5
   omega;omega;omega;omega
   ·repeat first|exact QU.o|(refine OQ.o _ _ (by assumption) ?_)|(refine HA1.o _ _ ?_)|(refine HA2.o _ ?_)
 case rest =>
  obtain⟨q,bu,bd,rfl,hpl,hsz,hbl⟩:=hcut;clear HK HA1 HA2 OQ QU lX HTX hmm;have qL:=az hpl.o;have jS:=az hsz.o;have lK:=az (HB3.o.trans (hbl.o.mono HB3.o.size));clear hpl hsz hbl;go_wp2_with fail;go_loopw [58] (λi wr=>i=vi 0/\wr=wc) (λ_ _=>0)
  case atStart=>exact⟨rfl,rfl⟩
  case round =>
   obtain⟨rfl,rfl⟩:=hrel;go_wp2;go_ret2;have h1:=HB3.o.size;have h2:=jS.o;exact⟨q,bu,bd,rfl,qL.o,⟨aa,aa,aa⟩,lK.o⟩
structure Pl where
 P:Int
 U:Mp Int
 M:Mp (List Nat)
def Pl.there (p:Pl)(n:Int):Bool:=(decide (1<=n)&&decide (n<=4))||MP.has p.U n
def Pl.get (p:Pl)(n:Int):List Nat:=(MP.get p.M n).getD (List.replicate 64 0)
def Pl.put (p:Pl)(n:Int)(l:List Nat):Pl:={p with M:=MP.put p.M n l}
def foot (Y:Bi)(X:dm)(n:Nat):Prop:=n=Y.bu\/n=Y.bd\/X.foot Y.f n
def iM (aA:Nat)(w:acL)(D:Mp acK)(M:Mp (List Nat))(n:Int):Prop :=
 (MP.get D n=none/\MP.get M n=none)\/∃g c l,MP.get D n=some (aco (some ⟨g,0,none⟩) 64 c)/\MP.get M n=some l/\l.length=64/\64<=c/\c<=maxLen/\dx aA w (some ⟨g,0,none⟩) l
structure iy (aA:Nat)(w:acL)(q:Nat)(Y:Bi)(X:dm)(p:Pl):Prop where
 pl:fE w q Y
 ft:bP aA w Y.f X
 fit:X.Fit
 OT:∀n,Y.foot q n->¬X.foot Y.f n
 low:aA<=Y.bu/\aA<=Y.bd/\aA<=q
 lay:Y.T=4/\Y.F=5/\Y.P=p.P/\Y.I=8/\Y.sz=64
 used:Y.U=p.U
 rows:∀n,iM aA w Y.D p.M n
 zero:∀n:Nat,1<=n->n<=4->X.view.read n=(([],60),X.view)
 full:∀n,MP.has p.U n=true->MP.has p.M n=true
def PQ (aA:Nat)(w:acL)(q:Nat)(K:Nat->Prop)(p:Pl):Prop:=∃Y X,iy aA w q Y X p/\K=foot Y X
structure bG (aA:Nat)(w:acL)(q:Nat)(K:Nat->Prop)(w':acL)(K':Nat->Prop)(p':Pl):Prop where
 at_:PQ aA w' q K' p'
 aJ:aP K w w'
 foot:∀n,K' n->K n\/w.heap.size<=n
section
variable{p:Pl}{K K':Nat->Prop}
def aaK (aA:Nat)(w:acL)(q:Nat)(K:Nat->Prop)(p:Pl)(n:Int)(e:Ending)(w':acL):Prop :=
 ∃w1 K' g c,e=ab4 (adg #[aco (some ⟨g,0,none⟩) 64 c,vi 0])/\Own w' w1.heap.size (aco (some ⟨g,0,none⟩) 64 c) (p.get n)/\(p.get n).length=64/\(∀y∈p.get n,y<256)/\w1.heap.size<=g/\64<=c/\c<=maxLen/\bG aA w q K w1 K' p/\acN w1.heap.size w1 w'
end
section
variable{p:Pl}
def KA {v0 v1 v2 v3:acK}(hb:aD w' g 65 #[v0,v1,v2,v3])(tmps:Array acK)(h2:tmps[2]?=some (adj (some ⟨g,0,none⟩))) :
  (results Tryz.f24 tmps).run prog w'=.ok (adA #[v0,v1,v2,v3]) w':=by
 have g0:w'.cell? ⟨g,0,none⟩=some v0:=hb.cell 0;have g1:w'.cell? ⟨g,1,none⟩=some v1:=hb.cell 1;have g2:w'.cell? ⟨g,2,none⟩=some v2:=hb.cell 2;have g3:w'.cell? ⟨g,3,none⟩=some v3:=hb.cell 3;simp only[results,results24];simp[go_sem,h2,g0,g1,g2,g3]
def Td {w1:acL}{u0 u1 u2 u3:acK}(v0 v1 v2 v3:acK)(h:aD w1 g 65 #[u0,u1,u2,u3])(hb:acN w.heap.size w w1)(hg:w.heap.size<=g) :
  aD ((((w1.setCell ⟨g,0,none⟩ v0).setCell ⟨g,1,none⟩ v1).setCell ⟨g,2,none⟩ v2).setCell ⟨g,3,none⟩ v3) g 65 #[v0,v1,v2,v3]/\acN w.heap.size w ((((w1.setCell ⟨g,0,none⟩ v0).setCell ⟨g,1,none⟩ v1).setCell ⟨g,2,none⟩ v2).setCell ⟨g,3,none⟩ v3):=by
 refine⟨(((h.bB 0 v0).bB 1 v1).bB 2 v2).bB 3 v3,?_⟩;exact(((hb.setCell (p:=⟨g,0,none⟩) hg v0).setCell (p:=⟨g,1,none⟩) hg v1).setCell (p:=⟨g,2,none⟩) hg v2).setCell (p:=⟨g,3,none⟩) hg v3
end
end pl
namespace PI
abbrev bF.KC (i:PI.bF)(n x:Nat):PI.bF:={i with direct:=i.direct.set n x}
end PI
namespace nd
open RowKit mgr ft pl ino
abbrev fileC (q:Nat):PI.bF->Array acK
 |⟨kd,ln,sz,[d0,d1,d2,d3,d4,d5],sg,db⟩=>#[ptr q,vi kd,vi ln,vi sz,vi d0,vi d1,vi d2,vi d3,vi d4,vi d5,vi sg,vi db]
 |_=>#[]
variable{q g:Nat}{i:PI.bF}
def file_d (hi:i.direct.length=6)(h:aD w g 74 (fileC q i))(hn:n<6):w.cell? ⟨g,4+n,none⟩=some (vi (i.direct.getD n 0)):=by
 obtain⟨kd,ln,sz,dl,sg,db⟩:=i;obtain⟨d0,d1,d2,d3,d4,d5,rfl⟩:=six (l:=dl) hi;rw[h.cell];rcases (by omega:n=0\/n=1\/n=2\/n=3\/n=4\/n=5) with rfl|rfl|rfl|rfl|rfl|rfl<;>rfl
def file_q (hi:i.direct.length=6)(h:aD w g 74 (fileC q i)):w.cell? ⟨g,0,none⟩=some (ptr q):=by
 obtain⟨kd,ln,sz,dl,sg,db⟩:=i;obtain⟨d0,d1,d2,d3,d4,d5,rfl⟩:=six (l:=dl) hi;rw[h.cell];rfl
def file_set (hi:i.direct.length=6)(h:aD w g 74 (fileC q i))(hn:n<6)(x:Nat):aD (w.setCell ⟨g,4+n,none⟩ (vi x)) g 74 (fileC q (i.KC n x)):=by
 obtain⟨kd,ln,sz,dl,sg,db⟩:=i;obtain⟨d0,d1,d2,d3,d4,d5,rfl⟩:=six (l:=dl) hi;have:=h.bB (4+n) (vi x);rcases (by omega:n=0\/n=1\/n=2\/n=3\/n=4\/n=5) with rfl|rfl|rfl|rfl|rfl|rfl<;>exact this
abbrev Te:Array acK:=#[vi 0,vi 0,vi 0,vi 0,vi 0,vi 0,vi 0,vi 0,vi 0,vi 0,vi 0]
variable{W:acL}{x:Nat}
def nT {v0 v1 v2 v3 v4 v5 v6 v7 v8 v9 v10:acK}(h:aD W x 29 #[v0,v1,v2,v3,v4,v5,v6,v7,v8,v9,v10]) :
  W.cell? ⟨x,0,none⟩=some v0/\W.cell? ⟨x,1,none⟩=some v1/\W.cell? ⟨x,2,none⟩=some v2/\W.cell? ⟨x,3,none⟩=some v3/\W.cell? ⟨x,4,none⟩=some v4/\W.cell? ⟨x,5,none⟩=some v5/\W.cell? ⟨x,6,none⟩=some v6/\W.cell? ⟨x,7,none⟩=some v7/\W.cell? ⟨x,8,none⟩=some v8/\W.cell? ⟨x,9,none⟩=some v9/\W.cell? ⟨x,10,none⟩=some v10 :=
 ⟨h.cell 0,h.cell 1,h.cell 2,h.cell 3,h.cell 4,h.cell 5,h.cell 6,h.cell 7,h.cell 8,h.cell 9,h.cell 10⟩
def pJ (h:aD W x 29 Te) :
  W.cell? ⟨x,0,none⟩=some (vi 0)/\W.frozen? ⟨x,0,none⟩=false/\W.cell? ⟨x,1,none⟩=some (vi 0)/\W.frozen? ⟨x,1,none⟩=false/\W.cell? ⟨x,2,none⟩=some (vi 0)/\W.frozen? ⟨x,2,none⟩=false/\W.cell? ⟨x,3,none⟩=some (vi 0)/\W.frozen? ⟨x,3,none⟩=false/\W.cell? ⟨x,4,none⟩=some (vi 0)/\W.frozen? ⟨x,4,none⟩=false/\W.cell? ⟨x,5,none⟩=some (vi 0)/\W.frozen? ⟨x,5,none⟩=false/\W.cell? ⟨x,6,none⟩=some (vi 0)/\W.frozen? ⟨x,6,none⟩=false/\W.cell? ⟨x,7,none⟩=some (vi 0)/\W.frozen? ⟨x,7,none⟩=false/\W.cell? ⟨x,8,none⟩=some (vi 0)/\W.frozen? ⟨x,8,none⟩=false/\W.cell? ⟨x,9,none⟩=some (vi 0)/\W.frozen? ⟨x,9,none⟩=false/\W.cell? ⟨x,10,none⟩=some (vi 0)/\W.frozen? ⟨x,10,none⟩=false :=
 ⟨h.cell 0,h.frozen 0,h.cell 1,h.frozen 1,h.cell 2,h.frozen 2,h.cell 3,h.frozen 3,h.cell 4,h.frozen 4,h.cell 5,h.frozen 5,h.cell 6,h.frozen 6,h.cell 7,h.frozen 7,h.cell 8,h.frozen 8,h.cell 9,h.frozen 9,h.cell 10,h.frozen 10⟩
def ffacts {ka la za e0 e1 e2 e3 e4 e5 sa da:Nat}(h:aD W x 74 (fileC q ⟨ka,la,za,[e0,e1,e2,e3,e4,e5],sa,da⟩)) :
  W.cell? ⟨x,1,none⟩=some (vi ka)/\W.cell? ⟨x,2,none⟩=some (vi la)/\W.cell? ⟨x,3,none⟩=some (vi za)/\W.cell? ⟨x,4,none⟩=some (vi e0)/\W.cell? ⟨x,5,none⟩=some (vi e1)/\W.cell? ⟨x,6,none⟩=some (vi e2)/\W.cell? ⟨x,7,none⟩=some (vi e3)/\W.cell? ⟨x,8,none⟩=some (vi e4)/\W.cell? ⟨x,9,none⟩=some (vi e5)/\W.cell? ⟨x,10,none⟩=some (vi sa)/\W.cell? ⟨x,11,none⟩=some (vi da) :=
 ⟨h.cell 1,h.cell 2,h.cell 3,h.cell 4,h.cell 5,h.cell 6,h.cell 7,h.cell 8,h.cell 9,h.cell 10,h.cell 11⟩
end nd
end Go.Proofs.YtllmbcigmimgoaaGreat
