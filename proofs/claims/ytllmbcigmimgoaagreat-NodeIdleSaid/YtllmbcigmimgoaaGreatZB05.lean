/-
  Lemmas for a law's proof, put together from several texts. No conditions of their own.
-/
import Derived.Test.YtllmbcigmimgoaaGreatZB04
import Derived.Test.YtllmbcigmimgoaaGreatZB02
import Derived.Deep.RegionLaw
import Derived.Deep.DeepCutAuto
import Derived.Deep.LoopGhost
import Derived.WalkMore
import Derived.RangeFuncNested
import Derived.RangeFuncBound
import Derived.RangeFuncCalls
import Derived.RangeFuncLeaves
import Derived.OwnWalkIn
import Derived.TacticsInMore
import Derived.LoopNIn
import Derived.LoopIn
set_option maxRecDepth 100000
set_option maxHeartbeats 20000000
set_option linter.all false
namespace Go.Proofs.YtllmbcigmimgoaaGreat
open _root_.Go.Proofs.Tryz
open _root_.Bool renaming and_eq_true->ac8
open _root_.Go renaming World->acL,Value->acK,Calls->ac4,bodyPost_ret->ac5,wpQuiet_nil->adE
open _root_.Go.Ending renaming returned->ab4
open _root_.Go.Instr renaming lookup->abw
open _root_.Go.IntKind renaming i64->adk
open _root_.Go.IntWalk renaming i64_in->adl
open _root_.Go.Obj renaming cells->ach
open _root_.Go.RowKit renaming Below->acN
open _root_.Go.Value renaming slice->aco,pointer->adj,tuple->adg,agg->adA,bool->acg
open _root_.List renaming length_drop->adt,getD_eq_getElem?_getD->aah,drop_drop->adv,length_replicate->abP,length_take->acX,mem_cons_of_mem->adw
open _root_.Or renaming inl->ack,inr->acm
open RowKit
def RD (w:acL)(g:Nat)(l:List Nat):Prop:=∃a c,aD w g 23 #[aco a l.length c]/\bE w a l/\l.length<=c/\c<=maxLen/\∀ad,a=some ad->ad.block<g
def block_add (a:Addr)(n:Nat):(a.add n).block=a.block:=by unfold Addr.add;split<;>rfl
variable{w:acL}{a:Option Addr}{l:List Nat}
def bE.dropped (h:bE w a l)(n:Nat):bE w (Option.map (λx=>x.add n) a) (l.drop n):=by
 rcases h.at_ with rfl|⟨b,o,rfl,h1⟩;simpa using bE.nil w _;rw[Option.map_some,add_plain];exact h.drop n
variable{g:Nat}{u:acK}
def bE.A8 {v:acK}{m:List Nat}(hm:bE w a m)(hb:aD w g 23 #[v])(hv:∀n,v≠vb n):bE (w.setCell ⟨g,0,none⟩ u) a m:=by
 refine⟨hm.small,?_⟩;rcases hm.at_ with h0|⟨b,o,rfl,h1⟩;exact ack h0;by_cases hbg:b=g;refine ack ?_;subst hbg;rcases m with _|⟨x,m⟩;rfl;have h2:=h1 0 ai;rw[hb.cell]at h2;rcases o with _|o;simp at h2;exact absurd h2 (hv x);simp at h2;refine acm ⟨b,o,rfl,λi hi=>?_⟩;rw[acL.cell?_setCell_other _ _ _ _ (λe=>hbg (by injection e with e1;exact e1.symm))];exact h1 i hi
def RD.turn {n c:Nat}(hb:aD w g 23 #[aco a l.length c])(hr:bE w a l)(hn:n<=l.length)(hc:l.length<=c)(hm:c<=maxLen)(ho:∀ad,a=some ad->ad.block<g)
  (hu:(c=n/\u=aco a (l.length-n) 0)\/u=aco (Option.map (λx=>x.add n) a) (l.length-n) (c-n)) :
  bE (w.setCell ⟨g,0,none⟩ u) a (l.take n)/\RD (w.setCell ⟨g,0,none⟩ u) g (l.drop n)/\w.grownBy (w.setCell ⟨g,0,none⟩ u) (some g):=by
 have hset:=hb.bB 0 u;refine⟨(hr.take n).A8 hb ai,?_,⟨rfl,rfl,rfl,by simp[acL.setCell],λk _ hne=>acN.heap_setCell w _ u k (λe=>hne (by rw[e]))⟩⟩;rcases hu with⟨rfl,rfl⟩|rfl;have e:l.drop c=[]:=List.drop_eq_nil_of_le hc;refine⟨a,0,?_,by rw[e];exact bE.nil _ _,by rw[e];exact aj,Nat.zero_le _,ho⟩;rw[adt];exact hset;refine⟨_,c-n,?_,(hr.dropped n).A8 hb ai,by rw[adt];omega,aa,λad hd=>?_⟩;rw[adt];exact hset;cases a with
 |none=>cases hd
 |some a0 =>
  injection hd with hd;subst hd;rw[block_add];exact ho a0 rfl
def WO (z x:Nat)(hz:z<72057594037927936)(hx:x<256):bits .or .u64 (IntKind.u64.wrap ((z:Int)*256)) (x:Int)=((x+256*z:Nat):Int):=by
 have e:IntKind.u64.wrap ((z:Int)*256)=((z*256:Nat):Int):=by
  simp only[IntKind.wrap,IntKind.bits,IntKind.signed];simp;omega
 rw[e,u64_or_nat _ _ aa aa,nat_join 8 (z*256) x aa aa];congr 1;omega
def Sz (z x:Nat)(hz:z<72057594037927936)(hx:x<256):bits .or .u64 ((z:Int)*256) (x:Int)=((x+256*z:Nat):Int):=by
 rw[show (z:Int)*256=((z*256:Nat):Int) by simp,u64_or_nat _ _ aa aa,nat_join 8 (z*256) x aa aa];congr 1;omega
variable{j:Nat}
def SE (hj:j<l.length):HP.num (l.drop j)=l.getD j 0+256*HP.num (l.drop (j+1)):=by
 rw[List.drop_eq_getElem_cons hj,HP.num];simp[List.getD,hj,Nat.mul_comm]
def Iu (h:∀y∈l,y<256)(hl:l.length<=8)(hj:0<j):HP.num (l.drop j)<72057594037927936:=by
 have h1:=HP.J6 (l.drop j) (λy hy=>h y (List.mem_of_mem_drop hy));have h2:256 ^ (l.drop j).length<=256 ^ 7:=Nat.pow_le_pow_right aa (by rw[adt];omega);omega
def kP (g k:Nat)(l:List Nat)(w:acL)(h:RD w g l)(hk:k<=l.length)(hk8:k<=8) :
  ac4 prog 135 #[vi k,adj (some ⟨g,0,none⟩)] w λe w'=>e=ab4 (vq (HP.num (l.take k)))/\RD w' g (l.drop k)/\w.grownBy w' (some g):=by
 obtain⟨a,c,hb,hr,hc,hm,ho⟩:=h;have g0:w.cell? ⟨g,0,none⟩=some (aco a l.length c):=hb.cell 0;have f0:=hb.frozen 0;have HB:=az hb;have HR:=az hr;have HO:=az ho;have HT:Hid ((l.take k).length=k/\∀y∈l.take k,y<256):=az ⟨by rw[acX];omega,λy hy=>hr.small y (List.mem_of_mem_take hy)⟩;clear hb hr ho;go_in;go_wp2_with fail;go_loop [4,5] (λx i=>∃j z:Nat,j<=k/\i=vi ((j:Int)-1)/\x=vq z/\Hid (z=HP.num ((l.take k).drop j))) (λ_ i=>(intOf i+1).toNat)
 case atStart=>exact⟨k,0,aj,by go_num,rfl,az (by rw[List.drop_eq_nil_of_le (by rw[HT.o.1];exact aj)];rfl)⟩
 case round =>
  obtain⟨j,z,hj,rfl,rfl,hz⟩:=hrel;by_cases h0:0<j
  ·have hjl:j-1<l.length:=aa;obtain⟨b,o,rfl,hcell,hsm⟩:=HR.o.lookup hjl;have HX:Hid (HP.num ((l.take k).drop (j-1))=l.getD (j-1) 0+256*z):=az (by
    rw[SE (by rw[HT.o.1];omega),hz.o,show j-1+1=j by omega]
    congr 1
    simp only[aah,List.getElem?_take]
    rw[if_pos aa])
   have hzl:z<72057594037927936:=by rw[hz.o];exact Iu HT.o.2 (by rw[HT.o.1];exact hk8) h0
   have hor:=WO z _ hzl hsm;have ahh:=Sz z _ hzl hsm;have hi:((j:Int)-1).toNat=j-1:=aa;have hi0:(0:Int)<=(j:Int)-1:=aa;have hi1:(j:Int)-1<(l.length:Int):=aa;generalize l.getD (j-1) 0=x at hcell hsm HX hor ahh;clear HT;go_wp2_with fail;go_round
   case rel=>exact⟨j-1,x+256*z,aa,by go_num,by go_num,az (by rw[HX.o])⟩
   case measure=>simp[intOf];omega
  obtain rfl:j=0:=aa;have HZ:=hz;go_wp2_with fail;all_goals go_ret
  all_goals refine⟨by have:=HZ.o;rw[List.drop_zero]at this;rw[this];rfl,?_⟩
  all_goals exact(RD.turn HB.o HR.o hk hc hm HO.o (by first|exact acm rfl|exact ack ⟨by assumption,rfl⟩|exact ack ⟨rfl,rfl⟩)).2
variable{w':acL}
def lW {t:TP.Tag}(h:aD w' w.heap.size 170 #[vi t.aL,vw t.aB,vq t.seq,vq t.aM]):w'.cell? ⟨w.heap.size,0,none⟩=some (vi t.aL)/\w'.cell? ⟨w.heap.size,1,none⟩=some (vw t.aB)/\w'.cell? ⟨w.heap.size,2,none⟩=some (vq t.seq)/\w'.cell? ⟨w.heap.size,3,none⟩=some (vq t.aM) :=
 ⟨h.cell 0,h.cell 1,h.cell 2,h.cell 3⟩
def OI (k:Int):k%256=((TP.qN k:Nat):Int):=by
 unfold TP.qN;omega
def yJ {t:TP.Tag}(h:TP.right t=true):t.aB<8192/\t.seq<4611686018427387904/\t.aM<4611686018427387904:=by
 unfold TP.right at h;simp only[ac8,decide_eq_true_eq]at h;obtain⟨⟨⟨⟨⟨_,h1⟩,_⟩,h2⟩,_⟩,h3⟩:=h;exact⟨h1,h2,h3⟩
variable{n:Int}
def vP (h:TP.sized n=true):64<=n/\n<=512:=by
 unfold TP.sized at h;simp only[Bool.or_eq_true,beq_iff_eq]at h;omega
def Ku (t:TP.Tag)(a:Option Addr)(p:List Nat)(c:Nat)(w:acL)(h:bE w a p)(hl:p.length<=900000) :
  ac4 prog 145 #[aaD t,.slice a p.length c] w λe w'=>∃v,e=.returned (.tuple #[v,vi (TP.write t p).2])/\Own w' w.heap.size v (TP.write t p).1/\acN w.heap.size w w':=by
 obtain⟨kd,pg,sq,ep⟩:=t;have HD:Hid (TP.write ⟨kd,pg,sq,ep⟩ p=if TP.right ⟨kd,pg,sq,ep⟩&&TP.sized p.length then (TP.bytes ⟨kd,pg,sq,ep⟩ p,0) else ([],1)):=az rfl;have F0:Hid (aD (w.alloc (.cells #[vi kd,vw pg,vq sq,vq ep] 170)) w.heap.size 170 #[vi kd,vw pg,vq sq,vq ep]):=az (aD.new _ _ _);have HB:Hid (acN w.heap.size w (w.alloc (.cells #[vi kd,vw pg,vq sq,vq ep] 170))):=az ax;have HR:=az (h.below HB.o);have WQ:=az h.small;clear h;go_in;go_wp2_with fail;generalize w.alloc (.cells #[vi kd,vw pg,vq sq,vq ep] 170)=w0 at*;refine(A7 ⟨kd,pg,sq,ep⟩ _).mono ?_
 rintro e w1 ⟨rfl,hb1⟩;have HB1:=az (HB.o.trans (hb1.mono HB.o.size));have F1:=az (F0.o.old hb1);have HR1:=az (HR.o.below hb1);clear hb1 HB F0 HR;cases hrt:TP.right ⟨kd,pg,sq,ep⟩
 ·rw[hrt]at HD;go_wp2;go_ret2;rw[HD.o];exact⟨_,rfl,Own.nil _ _,HB1.o⟩
 rw[hrt]at HD;go_wp2_with fail;refine(D8 _ _).mono ?_;rintro e w' ⟨rfl,rfl⟩;cases hsz:TP.sized p.length
 ·rw[hsz]at HD;go_wp2;go_ret2;rw[HD.o];exact⟨_,rfl,Own.nil _ _,HB1.o⟩
 rw[hsz]at HD;obtain⟨h1,h2,h3⟩:=yJ hrt;have hse:=vP hsz;dsimp only at h1 h2 h3;have HD2:Hid (TP.write ⟨kd,pg,sq,ep⟩ p=(TP.head ⟨kd,pg,sq,ep⟩ p++HP.le 4 (HP.sum (TP.head ⟨kd,pg,sq,ep⟩ p))++HP.le 4 0,0)):=HD;obtain⟨i0,hi,hz0,hz1,hz2⟩:=info_parts l8;obtain⟨wm,hmk,hom,hgm⟩:=run_make_own (P:=prog) w' w.heap.size 23 5 i0 _ 1 underlying23 hi hz0 hz1 .i64 .i64 (p.length+32) (by rw[hz2];omega) (by unfold maxLen;omega) HB1.o.size;rw[show ((p.length+32:Nat):Int)=(p.length:Int)+32 by simp]at hmk;have HO:Hid (Own wm w.heap.size (.slice (some ⟨w'.heap.size,0,none⟩) 0 (p.length+32)) []):=az hom
 have hbm:acN w'.heap.size w' wm:=ak.grown hgm aj (λk hk=>by cases hk);have HBm:=az (HB1.o.trans (hbm.mono HB1.o.size));have Fm:=az (F1.o.old hbm);have HRm:=az (HR1.o.below hbm);clear hom hgm hbm HB1 F1 HR1 hi hz0 hz1 hz2;obtain⟨v1,wa,hr1,ho1,hs1⟩:=ik (c:=c) HO.o HRm.o (by simp;omega) HBm.o.size;have yK:=az ho1;have RA:eH 23 23 23 (.slice (some ⟨w'.heap.size,0,none⟩) 0 (p.length+32)) (.slice a p.length c) wm v1 wa:=⟨hr1⟩;have fV:=az ((Stp.of_below HBm.o aj).trans hs1);have Fa:=az (hs1.blk _ _ _ ag Fm.o);clear ho1 hr1 hs1 HO HRm HBm Fm
 have hwa:=fV.o.size;have hkd:=OI kd;have ads:=TP.G7 kd;obtain⟨v2,wb,hr2,ho2,hs2⟩:=J3 yK.o [67,85,TP.qN kd,0] (by simp;omega) rfl rfl (cs:=#[.int .u8 67,.int .u8 85,.int .u8 (kd%256),.int .u8 0]) (by rw[hkd];rfl) (by simp;omega) hwa;have yz:=az ho2;have RB:eH 23 23 23 v1 (.slice (some ⟨wa.heap.size,0,none⟩) 4 4) (wa.alloc (.cells #[.int .u8 67,.int .u8 85,.int .u8 (kd%256),.int .u8 0] 5)) v2 wb:=⟨hr2⟩;have HS2:=az (fV.o.trans hs2);have Fb:=az (hs2.blk _ _ _ ag Fa.o);obtain⟨d0,d1,d2,d3⟩:=lW (t:=⟨kd,pg,sq,ep⟩) Fa.o;obtain⟨e0,e1,e2,e3⟩:=lW (t:=⟨kd,pg,sq,ep⟩) Fb.o
 clear ho2 hr2 hs2 yK fV hkd ads hwa;go_wp2_with (at_builtin;first|refine wpList_append_run rfl (.tmp 20) (.tmp 21) rfl rfl rfl RA.run ?_|refine wpList_append_run rfl (.tmp 23) (.tmp 27) rfl rfl rfl RB.run ?_);refine(ry w.heap.size v2 _ pg 4 _ yz.o HS2.o.size aa (by simp;omega) ag).mono ?_;rintro e wc ⟨v3,rfl,ho3,hs3⟩;have EW:=az ho3;have GL:=az (HS2.o.trans hs3);have Fc:=az (hs3.blk _ _ _ ag Fb.o);clear d0 d1 d2 d3 e0 e1 e2 e3 yz HS2 Fb Fa RA RB ho3 hs3;obtain⟨d0,d1,d2,d3⟩:=lW (t:=⟨kd,pg,sq,ep⟩) Fc.o;go_wp2_with fail;refine(ry w.heap.size v3 _ sq 8 _ EW.o GL.o.size aa (by simp[HP.eU];omega) ag).mono ?_
 rintro e wd ⟨v4,rfl,zm,hs4⟩;have HO4:=az zm;have vB:=az (GL.o.trans hs4);have Fd:=az (hs4.blk _ _ _ ag Fc.o);clear d0 d1 d2 d3 EW GL Fc zm hs4;obtain⟨d0,d1,d2,d3⟩:=lW (t:=⟨kd,pg,sq,ep⟩) Fd.o;go_wp2_with fail;refine(ry w.heap.size v4 _ ep 8 _ HO4.o vB.o.size aa (by simp[HP.eU];omega) ag).mono ?_;rintro e we ⟨v5,rfl,jT,hs5⟩;have mY:=az (vB.o.trans hs5);have hhead:[]++p++[67,85,TP.qN kd,0]++HP.le 4 pg++HP.le 8 sq++HP.le 8 ep=TP.head ⟨kd,pg,sq,ep⟩ p:=by simp[TP.head]
 rw[hhead]at jT;have lX:=az (TP.o7 (t:=⟨kd,pg,sq,ep⟩) WQ.o);obtain⟨a5,c5,rfl,qJ,_⟩:=jT.row lX.o;have Dk:=az jT;have ql:=az qJ;have HHL:=az (TP.yu ⟨kd,pg,sq,ep⟩ p);clear d0 d1 d2 d3 HO4 vB Fd jT hs5 hhead qJ;go_wp2_with fail;have HL9:Hid ((TP.head ⟨kd,pg,sq,ep⟩ p).length<=9000000/\(TP.head ⟨kd,pg,sq,ep⟩ p).length+8<=1000000):=az ⟨by rw[HHL.o];omega,by rw[HHL.o];omega⟩;have hsum:=HP.sum_lt (TP.head ⟨kd,pg,sq,ep⟩ p);have SF:=Iq a5 (TP.head ⟨kd,pg,sq,ep⟩ p) c5 we ql.o HL9.o.1;generalize TP.head ⟨kd,pg,sq,ep⟩ p=hd at*;generalize HP.sum hd=sm at*
 refine SF.mono ?_;rintro e wf ⟨rfl,rfl⟩;go_wp2_with fail;refine(ry w.heap.size _ _ sm 4 _ Dk.o mY.o.size aa (by have:=HL9.o;omega) ag).mono ?_;rintro e wg ⟨v6,rfl,yL,hs6⟩;have CW:=az yL;have xG:=az (mY.o.trans hs6);clear Dk mY ql yL hs6;go_wp2_with fail;refine(ry w.heap.size v6 _ 0 4 _ CW.o xG.o.size aa (by rw[List.length_append,HP.eU];have:=HL9.o;omega) ag).mono ?_;rintro e wh ⟨v7,rfl,Fw,hs7⟩;have QT:=az Fw;have mZ:=az (xG.o.trans hs7);clear CW xG Fw hs7;go_wp2;go_ret2;rw[HD2.o];exact⟨_,rfl,QT.o,mZ.o.below⟩
variable{v0 v1 v2 v3:acK}
def fq {r:acK}(hb:aD w' g 170 #[v0,v1,v2,v3])(tmps:Array acK)(h2:tmps[2]?=some (adj (some ⟨g,0,none⟩)))(h3:tmps[3]?=some r)(h4:tmps[4]?=some (vi n)) :
  (results Tryz.f102 tmps).run prog w'=.ok (adg #[adA #[v0,v1,v2,v3],r,vi n]) w':=by
 have g0:w'.cell? ⟨g,0,none⟩=some v0:=hb.cell 0;have g1:w'.cell? ⟨g,1,none⟩=some v1:=hb.cell 1;have g2:w'.cell? ⟨g,2,none⟩=some v2:=hb.cell 2;have g3:w'.cell? ⟨g,3,none⟩=some v3:=hb.cell 3;simp only[results,results102];simp[go_sem,h2,h3,h4,g0,g1,g2,g3]
variable{W:acL}{u0 u1 u2 u3:acK}
def jK (v0 v1 v2 v3:acK)(hb:aD W g 170 #[u0,u1,u2,u3])(hw:acN w.heap.size w W)(hg:w.heap.size<=g) :
  aD ((((W.setCell ⟨g,0,none⟩ v0).setCell ⟨g,1,none⟩ v1).setCell ⟨g,2,none⟩ v2).setCell ⟨g,3,none⟩ v3) g 170 #[v0,v1,v2,v3] /\
   acN w.heap.size w ((((W.setCell ⟨g,0,none⟩ v0).setCell ⟨g,1,none⟩ v1).setCell ⟨g,2,none⟩ v2).setCell ⟨g,3,none⟩ v3):=by
 refine⟨(((hb.bB 0 v0).bB 1 v1).bB 2 v2).bB 3 v3,?_⟩;exact(((hw.setCell hg v0).setCell hg v1).setCell hg v2).setCell hg v3
def nG (h:∀y∈l,y<256)(m k:Nat):HP.num ((l.drop m).take k)<256 ^ k:=by
 have h1:=HP.J6 ((l.drop m).take k) (λy hy=>h y (List.mem_of_mem_drop (List.mem_of_mem_take hy)));exact Nat.lt_of_lt_of_le h1 (Nat.pow_le_pow_right aa (by rw[acX];omega))
def SG (a b c d:Nat):∀j n:Nat,(#[vi a,vw b,vq c,vq d]:Array acK)[j]?≠some (vb n):=by
 intro j n;match j with
 |0=>simp
 |1=>simp
 |2=>simp
 |3=>simp
 |j+4=>simp
def OJ {ops:Array Oper}{o:Oper}{a:Act}{K:Act->acL->Prop}{Q:Exit->Act->acL->Prop}{E:Prop}(s x:Operand){t u:TypeId}{v src v':acK}
  (hrun:eH t u o.type v src w v' w') (hgd:o.guard=none) (ho:o.op=.call {callee:=.builtin .append,args:=#[s,x],argTypes:=#[t,u]}) (hs:a.eval s=v) (hx:a.eval x=src) (h:K (a.put o.dst v') w'):if Region.wanted o (yielded ops a.tmps)=true then Oper.wp prog o a w K Q else E :=
 qf hgd s x ho hs hx hrun.run h
structure SH (w W:acL)(g bb oo:Nat)(b l:List Nat):Prop where
 f:aD W w.heap.size 170 #[vi 0,vw 0,vq 0,vq 0]
 below:acN w.heap.size w W
 rd:RD W g l
 row:bE W (some ⟨bb,oo,none⟩) b
 lt:w.heap.size<g
 bg:bb<g
variable{W':acL}{bb oo:Nat}
def SH.step {b l':List Nat}(h:SH w W g bb oo b l)(hr:RD W' g l')(hg:W.grownBy W' (some g)):SH w W' g bb oo b l' :=
 ⟨h.f.grown hg (by have:=h.lt;simp;omega),h.below.grown hg h.below.size (λk hk=>by injection hk with hk;have:=h.lt;omega),hr,h.row.grown hg (by have:=h.bg;simp;omega),h.lt,h.bg⟩
def RD.old (h:RD W g l)(hb:acN W.heap.size W W'):RD W' g l:=by
 obtain⟨a,c,h1,h2,h3⟩:=h;exact⟨a,c,h1.old hb,h2.below hb,h3⟩
def SH.old {b:List Nat}(h:SH w W g bb oo b l)(hb:acN W.heap.size W W'):SH w W' g bb oo b l :=
 ⟨h.f.old hb,h.below.trans (hb.mono h.below.size),h.rd.old hb,h.row.below hb,h.lt,h.bg⟩
def RD.zK {q:Nat}{cs:Array acK}(h:RD W g l)(hq:aD W q 170 cs)(hv:∀j n:Nat,cs[j]?≠some (vb n)):RD (W.setCell ⟨q,j,none⟩ u) g l:=by
 obtain⟨a,c,h1,h2,h3⟩:=h;have hne:g≠q:=by
  intro e;subst e;unfold aD at h1 hq;rw[h1]at hq;injection hq with hq;injection hq with _ hq;exact absurd hq ag
 exact⟨a,c,h1.far (p:=⟨q,j,none⟩) hne u,h2.zK hq hv,h3⟩
def SH.set {q:Nat}{b:List Nat}{cs:Array acK}(h:SH w W g bb oo b l)(hq:aD W q 170 cs)(hv:∀j n:Nat,cs[j]?≠some (vb n))(hn:w.heap.size<q):SH w (W.setCell ⟨q,j,none⟩ u) g bb oo b l :=
 ⟨h.f.far (p:=⟨q,j,none⟩) (by dsimp only;omega) u,h.below.setCell (p:=⟨q,j,none⟩) (by dsimp only;omega) u,h.rd.zK hq hv,h.row.zK hq hv,h.lt,h.bg⟩
def RD.len (h:RD W g l):∀y∈l,y<256:=by
 obtain⟨a,c,h1,h2,h3⟩:=h;exact h2.small
variable{aA:Nat}
def Own.far {v:acK}{t:TypeId}{cs:Array acK}(h:Own w aA v l)(hg:aD w g t cs)(ht:t≠5):Own (w.setCell ⟨g,j,none⟩ u) aA v l :=
 acL.ownsRow.kept h (row:=some g) ⟨rfl,rfl,rfl,by simp[acL.setCell],λk _ hk=>acN.heap_setCell w _ u k (λe=>hk (by rw[e]))⟩ (acm (bU h hg ht).symm)
def Own.WR {v:acK}(h:Own w aA v l)(hb:aD w g 170 #[u0,u1,u2,u3]) :
  Own ((((w.setCell ⟨g,0,none⟩ v0).setCell ⟨g,1,none⟩ v1).setCell ⟨g,2,none⟩ v2).setCell ⟨g,3,none⟩ v3) aA v l :=
 (((h.far hb ag).far (hb.bB 0 v0) ag).far ((hb.bB 0 v0).bB 1 v1) ag).far (((hb.bB 0 v0).bB 1 v1).bB 2 v2) ag
def j5 (b:List Nat)(w:acL)(e:Ending)(w':acL):Prop:=∃v,e=ab4 (adg #[aaD (TP.read b).1,v,vi (TP.read b).2.2])/\Own w' w.heap.size v (TP.read b).2.1/\acN w.heap.size w w'
def j5.none {b:List Nat}(h:TP.read b=(TP.zero,[],n))(hb:acN w.heap.size w w'):j5 b w (ab4 (adg #[adA #[vi 0,vw 0,vq 0,vq 0],aco none 0 0,vi n])) w':=by
 unfold j5;rw[h];exact⟨_,rfl,Own.nil _ _,hb⟩
def OL (a:Option Addr)(b:List Nat)(c:Nat)(w:acL)(h:bE w a b)(hc:b.length<=c)(hm:c<=maxLen):ac4 prog 102 #[aco a b.length c] w (j5 b w):=by
 have HD:Hid (TP.read b=if TP.sized ((b.length:Int)-32)=false then (TP.zero,[],1) else if TP.ones b then (TP.zero,[],20) else
  if TP.jW b (b.drop (b.length-32)) (b.length-32) then (TP.Ab (b.drop (b.length-32)),b.take (b.length-32),0) else (TP.zero,[],21)):=az rfl
 have F0:Hid (aD (w.alloc (ach #[vi 0,vw 0,vq 0,vq 0] 170)) w.heap.size 170 #[vi 0,vw 0,vq 0,vq 0]):=az (aD.new _ _ _);have HB:Hid (acN w.heap.size w (w.alloc (ach #[vi 0,vw 0,vq 0,vq 0] 170))):=az ax;have HR:=az (h.below HB.o);clear h;have Df:maxLen=9223372036854775807:=rfl;have HM:=az Df;rw[Df]at hm;clear Df;by_cases h32:b.length<32
 ·have hlt:(b.length:Int)-32<0:=aa;have hs:TP.sized ((b.length:Int)-32)=false:=by
   cases hq:TP.sized ((b.length:Int)-32);rfl;have:=vP hq;omega
  rw[if_pos hs]at HD;go_in;go_upto_region 2 with fail;generalize w.alloc (ach #[vi 0,vw 0,vq 0,vq 0] 170)=w0 at*;obtain⟨d0,d1,d2,d3⟩:=lW (t:=TP.zero) F0.o;have f0:=F0.o.frozen 0;have f1:=F0.o.frozen 1;have f2:=F0.o.frozen 2;have f3:=F0.o.frozen 3;go_wp2_with fail;obtain⟨hf,hw⟩:=jK (vi 0) (vw 0) (vq 0) (vq 0) F0.o HB.o aj;exact ac5 (fq hf _ rfl rfl rfl) rfl (j5.none HD.o hw)
 obtain⟨n,hn⟩:∃n,b.length=n+32:=⟨b.length-32,aa⟩;have HN:=az hn;have Za:=Kr a b c (w.alloc (ach #[vi 0,vw 0,vq 0,vq 0] 170)) HR.o;rw[hn]at Za hc HD;rw[show ((n+32:Nat):Int)-32=n by omega,show n+32-32=n by omega]at HD;rw[hn];clear hn h32;go_in;go_upto_region 2 with fail;generalize w.alloc (ach #[vi 0,vw 0,vq 0,vq 0] 170)=w0 at*;obtain⟨d0,d1,d2,d3⟩:=lW (t:=TP.zero) F0.o;have f0:=F0.o.frozen 0;have f1:=F0.o.frozen 1;have f2:=F0.o.frozen 2;have f3:=F0.o.frozen 3;go_wp2_with fail;refine(D8 _ _).mono ?_;rintro e w' ⟨rfl,rfl⟩;cases hsz:TP.sized n
 ·rw[hsz]at HD;go_wp2_with fail;obtain⟨hf,hw⟩:=jK (vi 0) (vw 0) (vq 0) (vq 0) F0.o HB.o aj;exact ac5 (fq hf _ rfl rfl rfl) rfl (j5.none HD.o hw)
 rw[hsz]at HD;have hse:=vP hsz;have adu:=az (Za aa);clear Za;go_wp2_with fail;refine adu.o.mono ?_;rintro e w1 ⟨rfl,rfl⟩;clear adu;cases hone:TP.ones b
 ·rw[hone]at HD;have HDD:Hid (TP.read b=if TP.jW b (b.drop n) n then (TP.Ab (b.drop n),b.take n,0) else (TP.zero,[],21)):=HD;clear HD;have hb0:0<b.length:=by rw[HN.o];omega
  obtain⟨bb,oo,rfl,hcell,_⟩:=HR.o.lookup hb0;have hbb:=lU hcell;clear hcell hb0;have hcn:¬c=n:=aa;clear d0 d1 d2 d3 f0 f1 f2 f3;go_upto_region 7 with fail;have hdl:(b.drop n).length=32:=by rw[adt,HN.o];omega
  have T1:Hid (SH w (w1.alloc (ach #[aco (some ⟨bb,oo+n,none⟩) 32 (c-n)] 23)) w1.heap.size bb oo b (b.drop n)):=az
   ⟨F0.o.alloc _,HB.o.alloc HB.o.size _,⟨some ⟨bb,oo+n,none⟩,c-n,by rw[hdl];exact aD.new _ _ _,(HR.o.drop n).below ax,by rw[hdl];omega,by rw[HM.o];omega,
    λad e=>by injection e with e;rw[<-e];exact hbb⟩,HR.o.below ax,F0.o.lt,hbb⟩
  clear F0 HB HR hbb hcn;generalize w1.alloc (ach #[aco (some ⟨bb,oo+n,none⟩) 32 (c-n)] 23)=w2 at*;generalize w1.heap.size=g at*;have vQ:=az hdl;clear hdl;obtain⟨r,hr0⟩:∃r,r=b.drop n:=⟨_,rfl⟩;rw[<-hr0]at HDD vQ T1;clear hr0;have SI:=T1.o.rd.len;have lX:=az SI;clear SI;go_wp2_with fail;refine(kP g 2 r _ T1.o.rd (by rw[vQ.o];omega) aa).mono ?_;rintro e w3 ⟨rfl,hr,hg⟩;have T2:=az (T1.o.step hr hg);generalize hx:HP.num (r.take 2)=x0;have X0:=az hx;clear hr hg hx T1;go_wp2_with fail;refine(kP g 1 _ _ T2.o.rd (by rw[adt,vQ.o];omega) aa).mono ?_
  rintro e w4 ⟨rfl,hr,hg⟩;rw[adv]at hr;have T3:=az (T2.o.step hr hg);have hb1:=nG lX.o 2 1;generalize hx:HP.num ((r.drop 2).take 1)=x1 at*;have X1:=az hx;clear hr hg hx T2;go_wp2_with fail;refine(kP g 1 _ _ T3.o.rd (by rw[adt,vQ.o];omega) aa).mono ?_;rintro e w5 ⟨rfl,hr,hg⟩;rw[adv]at hr;have T4:=az (T3.o.step hr hg);generalize hx:HP.num ((r.drop (2+1)).take 1)=x3;have X3:=az hx;have hw1:wrap64 (x1:Int)=x1:=by unfold wrap64;omega
  clear hr hg hx T3;go_wp2_with fail;refine(kP g 4 _ _ T4.o.rd (by rw[adt,vQ.o];omega) aa).mono ?_;rintro e w6 ⟨rfl,hr,hg⟩;rw[adv]at hr;have T5:=az (T4.o.step hr hg);have hb4:=nG lX.o (2+1+1) 4;generalize hx:HP.num ((r.drop (2+1+1)).take 4)=x4 at*;have X4:=az hx;have hw4:(x4:Int)%4294967296=x4:=aa;clear hr hg hx T4;go_upto_region 10 with fail;have T6:Hid (SH w (w6.alloc (ach #[vi x1,vw x4,vq 0,vq 0] 170)) g bb oo b (r.drop (2+1+1+4))):=az (T5.o.old ax);have G6:Hid (aD (w6.alloc (ach #[vi x1,vw x4,vq 0,vq 0] 170)) w6.heap.size 170 #[vi x1,vw x4,vq 0,vq 0]):=az (aD.new _ _ _)
  have ig:Hid (w.heap.size<w6.heap.size):=az T5.o.f.lt;have HGH:Hid (some w6.heap.size≠some g):=az (λe=>by
   injection e with e
   obtain⟨_,_,hq,_⟩:=T5.o.rd
   have:=hq.lt;omega)
  clear T5 hw1 hw4;generalize (w6.alloc (ach #[vi x1,vw x4,vq 0,vq 0] 170))=w7 at*;generalize w6.heap.size=h at*;go_wp2_with fail;refine(kP g 8 _ _ T6.o.rd (by rw[adt,vQ.o];omega) aa).mono ?_;rintro e w8 ⟨rfl,hr,hg⟩;rw[adv]at hr;have T8:=az (T6.o.step hr hg);have G8:=az (G6.o.grown hg HGH.o);have wT:=nG lX.o (2+1+1+4) 8;generalize hx:HP.num ((r.drop (2+1+1+4)).take 8)=x8 at*;have X8:=az hx;clear hr hg hx T6 G6;go_wp2_with fail;refine(kP g 8 _ _ T8.o.rd (by rw[adt,vQ.o];omega) aa).mono ?_;rintro e w9 ⟨rfl,hr,hg⟩
  rw[adv]at hr;have T9:=az (T8.o.step hr hg);have G9:=az (G8.o.grown hg HGH.o);have ahk:=nG lX.o (2+1+1+4+8) 8;generalize hx:HP.num ((r.drop (2+1+1+4+8)).take 8)=OM at*;have X16:=az hx;have hf2:=G9.o.frozen 2;have hf3:=G9.o.frozen 3;have hc2:w9.cell? ⟨h,2,none⟩=some (vq 0):=G9.o.cell 2;have hc3:w9.cell? ⟨h,3,none⟩=some (vq 0):=G9.o.cell 3;have TA:=az ((T9.o.set (j:=2) (u:=vq x8) G9.o (SG _ _ _ _) ig.o).set (j:=3) (u:=vq OM) (G9.o.bB 2 (vq x8)) (SG x1 x4 x8 0) ig.o);have GA:Hid (aD ((w9.setCell ⟨h,2,none⟩ (vq x8)).setCell ⟨h,3,none⟩ (vq OM)) h 170 #[vi x1,vw x4,vq x8,vq OM]):=az ((G9.o.bB 2 (vq x8)).bB 3 (vq OM))
  clear hr hg hx T8 G8 T9 G9;go_upto_region 11 with fail;clear wT ahk hf2 hf3 hc2 hc3;generalize ((w9.setCell ⟨h,2,none⟩ (vq x8)).setCell ⟨h,3,none⟩ (vq OM))=wa at*;go_wp2_with fail;refine(kP g 4 _ _ TA.o.rd (by rw[adt,vQ.o];omega) aa).mono ?_;rintro e wb ⟨rfl,hr,hg⟩;rw[adv]at hr;have TB:=az (TA.o.step hr hg);have GB:=az (GA.o.grown hg HGH.o);generalize hx:HP.num ((r.drop (2+1+1+4+8+8)).take 4)=x24 at*;have X24:=az hx;clear hr hg hx TA GA;go_wp2_with fail;refine(kP g 4 _ _ TB.o.rd (by rw[adt,vQ.o];omega) aa).mono ?_
  rintro e wc ⟨rfl,hr,hg⟩;have TC:=az (TB.o.step hr hg);have GC:=az (GB.o.grown hg HGH.o);generalize hx:HP.num ((r.drop (2+1+1+4+8+8+4)).take 4)=x28 at*;have X28:=az hx;clear hr hg hx TB GB;have HTG:Hid (TP.Ab r=⟨x1,x4,x8,OM⟩):=az (by rw[<-X1.o,<-X4.o,<-X8.o,<-X16.o];rfl);have oC:Hid (TP.jW b r n=(x0==21827&&x3==0&&x28==0&&TP.right ⟨x1,x4,x8,OM⟩&&x24==HP.sum (b.take (n+24)))):=az (by
   unfold TP.jW
   rw[HTG.o,<-X0.o,<-X3.o,<-X28.o,<-X24.o])
  clear X0 X1 X3 X4 X8 X16 X24 X28 lX vQ;have k0:wc.cell? ⟨h,0,none⟩=some (vi x1):=GC.o.cell 0;have k1:wc.cell? ⟨h,1,none⟩=some (vw x4):=GC.o.cell 1;have k2:wc.cell? ⟨h,2,none⟩=some (vq x8):=GC.o.cell 2;have k3:wc.cell? ⟨h,3,none⟩=some (vq OM):=GC.o.cell 3;obtain⟨d0,d1,d2,d3⟩:=lW (t:=TP.zero) TC.o.f;have f0:=TC.o.f.frozen 0;have f1:=TC.o.f.frozen 1;have f2:=TC.o.f.frozen 2;have f3:=TC.o.f.frozen 3;by_cases q0:x0=21827
  ·subst q0;by_cases q3:x3=0
   ·subst q3;by_cases q28:x28=0
    ·subst q28;go_wp2_with fail;refine(A7 ⟨x1,x4,x8,OM⟩ _).mono ?_;rintro e wd ⟨rfl,hbl⟩;have TD:=az (TC.o.old hbl);have GDD:=az (GC.o.old hbl);clear hbl TC GC k0 k1 k2 k3 d0 d1 d2 d3 f0 f1 f2 f3;have k0:wd.cell? ⟨h,0,none⟩=some (vi x1):=GDD.o.cell 0;have k1:wd.cell? ⟨h,1,none⟩=some (vw x4):=GDD.o.cell 1;have k2:wd.cell? ⟨h,2,none⟩=some (vq x8):=GDD.o.cell 2;have k3:wd.cell? ⟨h,3,none⟩=some (vq OM):=GDD.o.cell 3;obtain⟨d0,d1,d2,d3⟩:=lW (t:=TP.zero) TD.o.f;have f0:=TD.o.f.frozen 0;have f1:=TD.o.f.frozen 1;have f2:=TD.o.f.frozen 2;have f3:=TD.o.f.frozen 3;cases hrt:TP.right ⟨x1,x4,x8,OM⟩
     ·rw[hrt]at oC;go_wp2_with fail;obtain⟨hf,hw⟩:=jK (vi 0) (vw 0) (vq 0) (vq 0) TD.o.f TD.o.below aj;exact ac5 (fq hf _ rfl rfl rfl) rfl (j5.none (by rw[HDD.o,if_neg (by rw[oC.o];simp)]) hw)
     rw[hrt]at oC;have hcs:=Iq (some ⟨bb,oo,none⟩) (b.take (n+24)) c wd (TD.o.row.take _) (by rw[acX,HN.o];omega);rw[show (b.take (n+24)).length=n+24 by rw[acX,HN.o];omega]at hcs;have SF:=az hcs;have hsl:=HP.sum_lt (b.take (n+24));generalize HP.sum (b.take (n+24))=sm at*;clear hcs;go_wp2_with fail;refine SF.o.mono ?_;rintro e we ⟨rfl,rfl⟩;clear SF;by_cases q24:x24=sm
     ·subst q24;have hlt:(b.take n).length=n:=by rw[acX,HN.o];omega
      obtain⟨v5,w5,hrun,jT,hs5⟩:=ik (c:=c) (Own.nil we.drew w.heap.size) (TD.o.row.take n).drew (by rw[hlt];simp;omega) TD.o.below.size;rw[hlt]at hrun;have RA:eH 23 23 23 (aco none 0 0) (aco (some ⟨bb,oo,none⟩) n c) we.drew v5 w5:=⟨hrun⟩;have F5:=az (hs5.blk _ _ _ ag TD.o.f.drew);have G5:=az (hs5.blk _ _ _ ag GDD.o.drew);have B5:=az ((TD.o.below.drew).trans hs5.below);have Dk:=az jT;clear hrun jT hs5 hlt;have k0':w5.cell? ⟨h,0,none⟩=some (vi x1):=G5.o.cell 0;have k1':w5.cell? ⟨h,1,none⟩=some (vw x4):=G5.o.cell 1;have k2':w5.cell? ⟨h,2,none⟩=some (vq x8):=G5.o.cell 2
      have k3':w5.cell? ⟨h,3,none⟩=some (vq OM):=G5.o.cell 3;obtain⟨d0',d1',d2',d3'⟩:=lW (t:=TP.zero) F5.o;have f0':=F5.o.frozen 0;have f1':=F5.o.frozen 1;have f2':=F5.o.frozen 2;have f3':=F5.o.frozen 3;have hnc:n<=c:=aa;go_upto_region 14 with fail;go_region_law (refine OJ (.const (aco none 0 0)) (.tmp 85) RA (by rfl) (by rfl) (by go_simp) (by go_simp) ?_);all_goals go_wp2_with fail
      all_goals obtain⟨hf,hw⟩:=jK (vi x1) (vw x4) (vq x8) (vq OM) F5.o B5.o aj
      all_goals refine ac5 (fq hf _ rfl rfl rfl) rfl ?_
      all_goals unfold j5
      all_goals rw[HDD.o,if_pos (by rw[oC.o];simp),HTG.o]
      all_goals exact⟨_,rfl,by
       have:=Dk.o
       rw[List.nil_append]at this
       exact this.WR F5.o,hw⟩
     have amK:((x24:Int) != (sm:Int))=true:=by simp;omega
     go_wp2_with fail;obtain⟨hf,hw⟩:=jK (vi 0) (vw 0) (vq 0) (vq 0) TD.o.f TD.o.below aj;exact ac5 (fq hf _ rfl rfl rfl) rfl (j5.none (by rw[HDD.o,if_neg (by rw[oC.o];simp[q24])]) hw)
    have amL:((x28:Int) != 0)=true:=by simp;omega
    go_wp2_with fail;obtain⟨hf,hw⟩:=jK (vi 0) (vw 0) (vq 0) (vq 0) TC.o.f TC.o.below aj;exact ac5 (fq hf _ rfl rfl rfl) rfl (j5.none (by rw[HDD.o,if_neg (by rw[oC.o];simp[q28])]) hw)
   have q3':((x3:Int) != 0)=true:=by simp;omega
   go_wp2_with fail;obtain⟨hf,hw⟩:=jK (vi 0) (vw 0) (vq 0) (vq 0) TC.o.f TC.o.below aj;exact ac5 (fq hf _ rfl rfl rfl) rfl (j5.none (by rw[HDD.o,if_neg (by rw[oC.o];simp[q3])]) hw)
  have q0':((x0:Int) != 21827)=true:=by simp;omega
  go_wp2_with fail;obtain⟨hf,hw⟩:=jK (vi 0) (vw 0) (vq 0) (vq 0) TC.o.f TC.o.below aj;exact ac5 (fq hf _ rfl rfl rfl) rfl (j5.none (by rw[HDD.o,if_neg (by rw[oC.o];simp[q0])]) hw)
 rw[hone]at HD;go_wp2_with fail;obtain⟨hf,hw⟩:=jK (vi 0) (vw 0) (vq 0) (vq 0) F0.o HB.o aj;exact ac5 (fq hf _ rfl rfl rfl) rfl (j5.none HD.o hw)
namespace ino
open RowKit
def oF {v:acK}(h:Own w aA v l)(hn:0<l.length):∃g cap,v=aco (some ⟨g,0,none⟩) l.length cap/\aA<=g/\l.length<=cap/\cap<=maxLen:=by
 rcases h.2 with⟨_,h0⟩|⟨g,cap,cur,hv,hb,_,hnc,hcm,_⟩;omega;exact⟨g,cap,hv,hb,hnc,hcm⟩
end ino
namespace PI
def way (n:Nat):Nat×Nat×Nat:=if n<6 then (0,n,0) else if n<38 then (1,n-6,0) else (2,(n-38)/32,(n-38)%32)
end PI
namespace ino
open RowKit
variable{w w':acL}
def A9:ac4 prog 53 #[vi 64] w λe w'=>e=ab4 (vi 1062)/\w'=w:=by
 go_in;go_wp2;go_ret;exact⟨rfl,rfl⟩
def kD:ac4 prog 27 #[vi 64] w λe w'=>e=ab4 (vi 67968)/\w'=w:=by
 go_in;go_wp2_with fail;refine oD.mono ?_;rintro e w' ⟨rfl,rfl⟩;go_wp2_with fail;refine A9.mono ?_;rintro e w' ⟨rfl,rfl⟩;go_wp2;go_ret;exact⟨rfl,rfl⟩
def Iw {t:TypeId}{cs:Array acK}(h:aD w g t cs):aD w.drew g t cs:=h
def jv (hb:aD w' g 111 #[v0,v1,v2])(tmps:Array acK)(h2:tmps[4]?=some (adj (some ⟨g,0,none⟩)))(h3:tmps[5]?=some (vi n)) :
  (results Tryz.f57 tmps).run prog w'=.ok (adg #[adA #[v0,v1,v2],vi n]) w':=by
 have g0:w'.cell? ⟨g,0,none⟩=some v0:=hb.cell 0;have g1:w'.cell? ⟨g,1,none⟩=some v1:=hb.cell 1;have g2:w'.cell? ⟨g,2,none⟩=some v2:=hb.cell 2;simp only[results,results57];simp[go_sem,h2,h3,g0,g1,g2]
def jL {w1:acL}(v0 v1 v2:acK)(h:aD w1 g 111 #[u0,u1,u2])(hb:acN w.heap.size w w1)(hg:w.heap.size<=g) :
  aD (((w1.setCell ⟨g,0,none⟩ v0).setCell ⟨g,1,none⟩ v1).setCell ⟨g,2,none⟩ v2) g 111 #[v0,v1,v2]/\acN w.heap.size w (((w1.setCell ⟨g,0,none⟩ v0).setCell ⟨g,1,none⟩ v1).setCell ⟨g,2,none⟩ v2) :=
 ⟨((h.bB 0 v0).bB 1 v1).bB 2 v2,((hb.setCell (p:=⟨g,0,none⟩) hg v0).setCell (p:=⟨g,1,none⟩) hg v1).setCell (p:=⟨g,2,none⟩) hg v2⟩
def Ba (n:Nat)(hn:n<1062):ac4 prog 57 #[vi 64,vi n] w λe w'=>e=ab4 (adg #[adA #[vi (PI.way n).1,vi (PI.way n).2.1,vi (PI.way n).2.2],vi 0])/\acN w.heap.size w w':=by
 have HB:Hid (acN w.heap.size w (w.alloc (ach #[vi 0,vi 0,vi 0] 111))):=az ax;have HF:=az (aD.new w 111 #[vi 0,vi 0,vi 0]);have HT:Hid (PI.way n=if n<6 then (0,n,0) else if n<38 then (1,n-6,0) else (2,(n-38)/32,(n-38)%32)):=az rfl;generalize PI.way n=T at*;have w6:adk.wrap ((n:Int)-6)=(n:Int)-6:=adl _ aa;have n1:¬(n:Int)<0:=aa;have n2:¬(1062:Int)<=(n:Int):=aa;go_in;go_upto_region 1 with fail;change Code.wp _ _ _ _ (w.alloc (ach #[vi 0,vi 0,vi 0] 111));generalize w.alloc (ach #[vi 0,vi 0,vi 0] 111)=w1 at*
 have r0:w1.cell? ⟨w.heap.size,0,none⟩=some (vi 0):=HF.o.cell 0;have f0:=HF.o.frozen 0;have r1:w1.cell? ⟨w.heap.size,1,none⟩=some (vi 0):=HF.o.cell 1;have f1:=HF.o.frozen 1;have r2:w1.cell? ⟨w.heap.size,2,none⟩=some (vi 0):=HF.o.cell 2;have f2:=HF.o.frozen 2;go_wp2_with fail;refine oD.mono ?_;rintro e w2 ⟨rfl,rfl⟩;go_wp2_with fail;refine A9.mono ?_;rintro e w2 ⟨rfl,rfl⟩;by_cases h6:n<6
 ·have c1:(n:Int)-6<0:=aa;go_wp2_with fail;obtain⟨hf,hw⟩:=jL (vi 0) (vi n) (vi 0) HF.o HB.o aj;exact ac5 (jv hf _ rfl rfl) rfl ⟨by rw[HT.o,if_pos h6];rfl,hw⟩
 have c1:¬(n:Int)-6<0:=aa;by_cases zN:n<38
 ·have c2:(n:Int)-6<32:=aa;go_wp2_with fail;obtain⟨hf,hw⟩:=jL (vi 1) (vi ((n:Int)-6)) (vi 0) HF.o HB.o aj;exact ac5 (jv hf _ rfl rfl) rfl ⟨by rw[HT.o,if_neg h6,if_pos zN];simp;omega,hw⟩
 have c2:¬(n:Int)-6<32:=aa;have w7:adk.wrap ((n:Int)-6-32)=((n-38:Nat):Int):=by rw[adl _ aa];omega
 have q1:adk.wrap (((n-38:Nat):Int).tdiv 32)=(((n-38)/32:Nat):Int):=by rw[Int.tdiv_eq_ediv_of_nonneg aa];rw[adl _ aa];omega
 have q2:adk.wrap (((n-38:Nat):Int).tmod 32)=(((n-38)%32:Nat):Int):=by rw[Int.tmod_eq_emod_of_nonneg aa];rw[adl _ aa];omega
 go_upto_region 11 with fail;go_region;go_wp2_with fail;obtain⟨hf,hw⟩:=jL (vi 2) (vi ((n-38:Nat)/32:Int)) (vi ((n-38:Nat)%32:Int)) HF.o HB.o aj;refine ac5 (jv (Iw hf) _ rfl rfl) rfl ⟨?_,hw.drew⟩;rw[HT.o,if_neg h6,if_neg zN];rfl
end ino
namespace ft
open RowKit mgr
def Fx:∀(m:Mp FP.cB) (a b:Int),a<=b->m.Pairwise (λx y=>x.1<y.1)->(∀x∈m,a<=x.1/\x.1<b)->(m.length:Int)<=b-a
 |[],a,b,h,_,_=>by simp;omega
 |x::m,a,b,h,hp,hb=>by
  obtain⟨h1,h2⟩:=List.pairwise_cons.1 hp
  have hx:=hb x ai
  have:=Fx m (x.1+1) b aa h2 (λy hy=>⟨by have:=h1 y hy;omega,(hb y (adw _ hy)).2⟩)
  simp only[List.length_cons]
  omega
def Low (m:Mp FP.cB):Prop:=MP.Ok m/\∀x∈m,0<=x.1/\x.1<8192
variable{m:Mp FP.cB}
def Low.len (h:Low m):m.length<=8192:=by have:=Fx m 0 8192 ag h.1 h.2;omega
def Low.put (h:Low m){k:Int}(hk:0<=k/\k<8192)(v:FP.cB):Low (MP.put m k v):=⟨MP.iJ h.1 _ _,λx hx=>by
 rcases MP.Mx hx with rfl|hx
 exact hk
 exact h.2 x hx⟩
def Low.del (h:Low m)(k:Int):Low (MP.del m k):=⟨MP.jc h.1 _,λx hx=>h.2 x ((MP.EP m k).subset hx)⟩
def Low.nil:Low []:=⟨MP.EO,by simp⟩
structure Fit (F:FP.Ft):Prop where
 good:gW F.c
 lL:F.g.ok F.c
 res:0<=F.aC/\F.aC<=65535/\0<=F.bad/\F.bad<=65535
 qE:0<=F.g.aC/\F.g.aC<=65535/\0<=F.g.bad/\F.g.bad<=65535
 slow:Low F.bD
 oG:Low F.now
 kQ:Low F.gone
 rz:F.later.length=F.c.B
 lC:F.text.length<=1000
def dm.Fit (X:dm):Prop:=ft.Fit X.view
variable{X:dm}
def dm.Fit.good (h:X.Fit):gW X.M.view:=ft.Fit.good h
def dm.Fit.lL (h:X.Fit):X.G.view.ok X.M.view:=ft.Fit.lL h
def dm.Fit.res (h:X.Fit):0<=X.aC/\X.aC<=65535/\0<=X.bad/\X.bad<=65535:=ft.Fit.res h
def dm.Fit.qE (h:X.Fit):0<=X.G.aC/\X.G.aC<=65535/\0<=X.G.bad/\X.G.bad<=65535:=ft.Fit.qE h
def dm.Fit.ahl (h:X.Fit):X.S.length<=100000:=Nat.le_trans (ft.Fit.slow h).len ag
def dm.Fit.ahm (h:X.Fit):X.N.length<=100000:=Nat.le_trans (ft.Fit.oG h).len ag
def dm.Fit.rz (h:X.Fit):X.later.length=X.M.B:=ft.Fit.rz h
def dm.Fit.lC (h:X.Fit):X.tx.length<=1000:=ft.Fit.lC h
def dm.Fit.bI (h:X.Fit):8<=X.M.B/\X.M.B<=128/\4<=X.M.P/\X.M.P<=32/\64<=X.M.S:=sM h.good.ok
def dm.Fit.size (h:X.Fit):X.M.S<=512:=by
 have h1:=h.good.ok.right;have h2:NP.bH X.M.B X.M.P X.M.S=true:=h1;unfold NP.bH at h2;simp only[ac8,Bool.or_eq_true,beq_iff_eq,decide_eq_true_eq]at h2;omega
def dm.Fit.WS (h:X.Fit):X.G.l.length=X.M.B:=h.lL.len
def aaG (x y z:Int)(w:acL):(Instr.field 103 (adA #[vi x,vi y,vi z]) 0).run prog w=.ok (vi x) w:=ah
def aaH (x y z:Int)(w:acL):(Instr.field 103 (adA #[vi x,vi y,vi z]) 1).run prog w=.ok (vi y) w:=ah
def SK (x y z:Int)(w:acL):(Instr.field 103 (adA #[vi x,vi y,vi z]) 2).run prog w=.ok (vi z) w:=ah
def vR (w:acL):(zeroValue 165).run prog w=.ok (adA #[vi 0,vi 0]) w:=ah
variable{aA:Nat}{w:acL}{f:Nat}{X:dm}
def Iy (h:bP aA w f X):ac4 prog 112 #[ptr f] w λe w'=>e=ab4 (vi X.M.S)/\acN w.heap.size w w':=by
 obtain⟨c0,c1,c2,c3,c4,c5,c6,c7,c8,c9,c10,c11⟩:=h.cells;have H:=az h;clear h c1 c2 c3 c4 c5 c6 c7 c8 c9 c10 c11;go_in;go_wp2_with fail;refine(iZ H.o.held.aW).mono ?_;rintro e w' ⟨rfl,hb⟩;have HB:=az hb;have hf:=SK;clear hb c0;go_wp2;go_ret;exact⟨rfl,HB.o⟩
def jM (B P S aC bad:Int)(w:acL)(h:0<=B/\B<=1000/\0<=aC/\aC<=70000/\0<=bad/\bad<=70000):ac4 prog 83 #[adA #[vi B,vi P,vi S],vi aC,vi bad] w λe w'=>e=ab4 (vi (B-bad-aC-1))/\acN w.heap.size w w':=by
 have HB:Hid (acN w.heap.size w (w.alloc (ach #[vi B,vi P,vi S] 103))):=az ax;have q1:adk.wrap (B-bad)=B-bad:=adl _ aa;have q2:adk.wrap (B-bad-aC)=B-bad-aC:=adl _ aa;have q3:adk.wrap (B-bad-aC-1)=B-bad-aC-1:=adl _ aa;go_in;go_wp2;go_ret;exact⟨rfl,HB.o⟩
def pF (h:bP aA w f X)(hx:X.Fit):ac4 prog 89 #[ptr f] w λe w'=>e=ab4 (vi X.view.cap)/\acN w.heap.size w w':=by
 obtain⟨c0,c1,c2,c3,c4,c5,c6,c7,c8,c9,c10,c11⟩:=h.cells;have H:=az h;have hd:=hx.bI;have hr:=hx.res;have HV:Hid (X.view.cap=((X.M.B:Int)-X.bad-X.aC-1)*X.M.P-2):=az rfl;have hm1:((X.M.B:Int)-X.bad-X.aC-1)*X.M.P<=128*32:=by
  have h1:((X.M.B:Int)-X.bad-X.aC-1)<=128:=aa;by_cases h0:0<=((X.M.B:Int)-X.bad-X.aC-1);exact Int.mul_le_mul h1 aa aa aa;have:=Int.mul_nonpos_of_nonpos_of_nonneg (a:=((X.M.B:Int)-X.bad-X.aC-1)) (b:=(X.M.P:Int)) aa aa;omega
 have hm2: -(200000*32)<=((X.M.B:Int)-X.bad-X.aC-1)*X.M.P:=by
  have h1: -200000<=((X.M.B:Int)-X.bad-X.aC-1):=aa;have h2: -200000*(X.M.P:Int)<=((X.M.B:Int)-X.bad-X.aC-1)*X.M.P:=Int.mul_le_mul_of_nonneg_right h1 aa;omega
 have WT:Hid (∀n:Sub _,ac4 prog 83 #[adA #[vi X.M.B,vi X.M.P,vi X.M.S],vi X.aC,vi X.bad] n.w λe w'=>e=ab4 (vi ((X.M.B:Int)-X.bad-X.aC-1))/\acN n.w.heap.size n.w w') :=
  az (λn:Sub w=>jM _ _ _ _ _ n.w aa)
 clear h c1 c4 c5 c6 c7 c8 c9 c10 c11 WT;go_in;go_wp2_with fail;refine(iZ H.o.held.aW).mono ?_;rintro e w1 ⟨rfl,hb⟩;have HB:=az hb;have c2:=cell_below c2 hb;have c3:=cell_below c3 hb;clear hb c0;have HB2:Hid (acN w.heap.size w (w1.alloc (ach #[vi X.M.B,vi X.M.P,vi X.M.S] 103))):=az (HB.o.alloc HB.o.size _);have FG:=aD.new w1 103 #[vi X.M.B,vi X.M.P,vi X.M.S];have c2:=cell_below c2 (ak.alloc aj (ach #[vi X.M.B,vi X.M.P,vi X.M.S] 103));have c3:=cell_below c3 (ak.alloc aj (ach #[vi X.M.B,vi X.M.P,vi X.M.S] 103));have g0:=FG.cell 0
 have g1:=FG.cell 1;have g2:=FG.cell 2;simp only[List.getElem?_toArray,List.getElem?_cons_zero,List.getElem?_cons_succ]at g0 g1 g2;clear FG;go_upto_region 4 with fail;generalize w1.alloc (ach #[vi X.M.B,vi X.M.P,vi X.M.S] 103)=w2 at*;have WT:Hid (∀n:Sub w2,ac4 prog 83 #[adA #[vi X.M.B,vi X.M.P,vi X.M.S],vi X.aC,vi X.bad] n.w λe w'=>e=ab4 (vi ((X.M.B:Int)-X.bad-X.aC-1))/\acN n.w.heap.size n.w w') :=
  az (λn=>jM _ _ _ _ _ n.w aa)
 generalize WU:(X.M.B:Int)-X.bad-X.aC-1=db at*;have q1:adk.wrap (db*X.M.P)=db*X.M.P:=adl _ aa;have q2:adk.wrap (db*X.M.P-2)=db*X.M.P-2:=adl _ aa;clear WU;have c2:=Sub.cell c2;have c3:=Sub.cell c3;have g0:=Sub.cell g0;have g1:=Sub.cell g1;have g2:=Sub.cell g2;refine aZ ah ah ?_;repeat (go_big_quiet_step (exact fM (WT.o _)))
 refine adE ?_;rintro _ ⟨nq,rfl⟩;have Ar:=az (HB2.o.trans (nq.below.mono HB2.o.size));go_wp2;go_ret;exact⟨bS HV.o.symm,Ar.o⟩
def SL (h:bP aA w f X)(hx:X.Fit):ac4 prog 114 #[ptr f] w λe w'=>e=.returned (vi X.view.used)/\acN w.heap.size w w':=by
 obtain⟨c0,c1,c2,c3,c4,c5,c6,c7,c8,c9,c10,c11⟩:=h.cells;have hs:=hx.ahl;have hn:=hx.ahm;have l1:∀n:Sub w,(Builtin.len_ #[149] 3 #[.map (some X.bs)]).run prog n.w=.ok (goInt X.S.length) n.w:=λn=>(h.bD.old n.below).len underlying149 _;have l2:∀n:Sub w,(Builtin.len_ #[149] 3 #[.map (some X.bn)]).run prog n.w=.ok (goInt X.N.length) n.w:=λn=>(h.now.old n.below).len underlying149 _;have q:adk.wrap ((X.S.length:Int)+X.N.length)=(X.S.length:Int)+X.N.length:=adl _ aa;clear h c0 c1 c2 c3 c4 c7 c8 c9 c10 c11;go_in;go_upto_region 3 with fail;have c5:=Sub.cell c5;have c6:=Sub.cell c6
 refine aZ ah ah ?_;repeat (go_big_quiet_step (fail))
 refine adE ?_;rintro _ ⟨nq,rfl⟩;have Ar:=az nq.below;go_wp2;go_ret;exact⟨rfl,Ar.o⟩
def vS (h:bP aA w f X)(hx:X.Fit):ac4 prog 113 #[ptr f] w λe w'=>e=ab4 (acg X.view.shut)/\acN w.heap.size w w':=by
 obtain⟨c0,c1,c2,c3,c4,c5,c6,c7,c8,c9,c10,c11⟩:=h.cells;have H:=az h;have hg:=hx.qE;have hcl:=oh 4 X.G.l;have hgl:=hx.WS;have hd:=hx.bI;have hw:wrap64 (X.G.aC-wrap64 ((aN 4 X.G.l:Nat)-X.G.bad))=FP.left X.G.view:=by
  unfold FP.left wrap64;dsimp only[iL.view];omega
 have HW:=az hw;have HV:Hid (X.view.shut=(X.over||decide (FP.left X.G.view<0))):=az rfl;rw[HV.o];clear h c0 c2 c3 c4 c5 c6 c7 c8 c9 c10 hw hcl hgl hd hg HV;go_in;generalize X.over=ov at*;cases ov
 ·go_wp2_with fail;refine(Hy H.o.held.mgr).mono ?_;rw[HW.o];rintro e w1 ⟨rfl,hb⟩;have HB:=az hb;clear hb;go_wp2;go_ret;exact⟨ai,HB.o⟩
 go_wp2;go_ret;exact⟨rfl,ak⟩
def ou (h:bP aA w f X):ac4 prog 116 #[ptr f] w λe w'=>e=ab4 (vi X.view.ready)/\w'=w:=by
 obtain⟨c0,c1,c2,c3,c4,c5,c6,c7,c8,c9,c10,c11⟩:=h.cells;have HU:=az (ET h.held.aW);have HV:Hid (X.view.ready=if X.M.down then 4 else 0):=az rfl;rw[HV.o];clear h c1 c2 c3 c4 c5 c6 c7 c8 c9 c10 c11 HV;generalize X.M.down=dn at*;cases dn
 ·go_in;go_wp2_with fail;refine HU.o.mono ?_;rintro e w' ⟨rfl,rfl⟩;go_wp2;go_ret;exact⟨rfl,rfl⟩
 go_in;go_wp2_with fail;refine HU.o.mono ?_;rintro e w' ⟨rfl,rfl⟩;go_wp2;go_ret;exact⟨rfl,rfl⟩
variable{a:Int}
def Fy {b:Int}(h:a=b)(hb:acN w.heap.size w w'):Ending.returned (vi a)=ab4 (vi b)/\acN w.heap.size w w':=⟨by rw[h],hb⟩
def rA (h:bP aA w f X)(hx:X.Fit)(aB:Nat)(hp:aB<4294967296):ac4 prog 99 #[ptr f,vw aB] w λe w'=>e=ab4 (vi (X.view.logical aB))/\acN w.heap.size w w':=by
 have bK:=az (ou h);have JS:=az (pF h hx);have HV:Hid (X.view.logical aB=if X.M.down then 4 else if aB=0\/X.view.cap<=aB then 1 else 0):=az rfl;have HR:Hid (X.view.ready=if X.M.down then 4 else 0):=az rfl;rw[HV.o];rw[HR.o]at bK;clear h hx HV HR;generalize X.M.down=dn at*;generalize X.view.cap=cp at*;cases dn
 ·by_cases h0:aB=0
  ·subst h0;go_in;go_wp2_with fail;refine bK.o.mono ?_;rintro e w' ⟨rfl,rfl⟩;go_wp2;go_ret;exact Fy ai ak
  have h0':((aB:Int)==0)=false:=by simp;omega
  by_cases hc:cp<=aB
  ·have HT:Hid ((if aB=0\/cp<=aB then 1 else 0:Int)=1):=az (if_pos (acm hc));have hi:(if (false=true) then 4 else if aB=0\/cp<=aB then 1 else 0:Int)=1:=by rw[HT.o];rfl
   rw[hi];clear hi HT;go_in;go_wp2_with fail;refine bK.o.mono ?_;rintro e w' ⟨rfl,rfl⟩;go_wp2_with fail;refine JS.o.mono ?_;rintro e w1 ⟨rfl,hb⟩;have HB:=az hb;clear hb;go_wp2;go_ret;exact Fy rfl HB.o
  have HT:Hid ((if aB=0\/cp<=aB then 1 else 0:Int)=0):=az (if_neg aa);have hi:(if (false=true) then 4 else if aB=0\/cp<=aB then 1 else 0:Int)=0:=by rw[HT.o];rfl
  rw[hi];clear hi HT;go_in;go_wp2_with fail;refine bK.o.mono ?_;rintro e w' ⟨rfl,rfl⟩;go_wp2_with fail;refine JS.o.mono ?_;rintro e w1 ⟨rfl,hb⟩;have HB:=az hb;clear hb;go_wp2;go_ret;exact Fy rfl HB.o
 go_in;go_wp2_with fail;refine bK.o.mono ?_;rintro e w' ⟨rfl,rfl⟩;go_wp2;go_ret;exact Fy rfl ak
def SN (h:bP aA w f X)(hx:X.Fit):ac4 prog 90 #[ptr f] w λe w'=>∃v,e=ab4 v/\Own w' w.heap.size v X.tx/\acN w.heap.size w w':=by
 obtain⟨c0,c1,c2,c3,c4,c5,c6,c7,c8,c9,c10,c11⟩:=h.cells;have H:=az h;have hl:=hx.lC;clear h c0 c1 c2 c3 c5 c6 c7 c8 c9 c10 c11;go_in;go_wp2_with fail;refine(jr X.ta X.tx X.tc w H.o.text.row aa).mono ?_;rintro e w' ⟨v,rfl,ho,hb⟩;have HO:=az ho;have HB:=az hb;clear ho hb;go_wp2;go_ret;exact⟨_,rfl,HO.o,HB.o⟩
section
variable{b:Nat}{m:Mp FP.cB}
def mg (h:bz w b .u32 dz m){j:Int}{p:FP.cB}(hg:MP.get m j=some p):(abw 149 (.map (some b)) (.int .u32 j) true).run prog w=.ok (.tuple #[.agg #[vi p.block,vi p.aB],.bool true]) w:=by
 rw[h.sF underlying149 underlying118 (vR w) j,MP.has,hg];rfl
def mh (h:bz w b .u32 dz m){j:Int}(hg:MP.get m j=none):(abw 149 (.map (some b)) (.int .u32 j) true).run prog w=.ok (.tuple #[.agg #[vi 0,vi 0],.bool false]) w:=by
 rw[h.sF underlying149 underlying118 (vR w) j,MP.has,hg];rfl
end
def sO {n:Bool}(hb:aD w' g 165 #[v0,v1])(tmps:Array acK)(h2:tmps[4]?=some (adj (some ⟨g,0,none⟩)))(h4:tmps[5]?=some (acg n)) :
  (results Tryz.f100 tmps).run prog w'=.ok (adg #[adA #[v0,v1],acg n]) w':=by
 have g0:w'.cell? ⟨g,0,none⟩=some v0:=hb.cell 0;have g1:w'.cell? ⟨g,1,none⟩=some v1:=hb.cell 1;simp only[results,results100];simp[go_sem,h2,h4,g0,g1]
def vT (v0 v1:acK)(hb:aD W g 165 #[u0,u1])(hw:acN w.heap.size w W)(hg:w.heap.size<=g) :
  aD ((W.setCell ⟨g,0,none⟩ v0).setCell ⟨g,1,none⟩ v1) g 165 #[v0,v1]/\acN w.heap.size w ((W.setCell ⟨g,0,none⟩ v0).setCell ⟨g,1,none⟩ v1) :=
 ⟨(hb.bB 0 v0).bB 1 v1,(hw.setCell hg v0).setCell hg v1⟩
def bO (h:aD w g 165 #[v0,v1]):w.cell? ⟨g,0,none⟩=some v0/\w.cell? ⟨g,1,none⟩=some v1/\w.frozen? ⟨g,0,none⟩=false/\w.frozen? ⟨g,1,none⟩=false :=
 ⟨h.cell 0,h.cell 1,h.frozen 0,h.frozen 1⟩
abbrev atV (p:Option FP.cB):acK:=adg #[dz (p.getD default),acg p.isSome]
def pG (h:bP aA w f X)(aB:Nat):ac4 prog 100 #[ptr f,vw aB] w λe w'=>e=ab4 (atV (X.view.at_ aB))/\acN w.heap.size w w':=by
 have HV:Hid (X.view.at_ aB=match MP.get X.N aB with|some p=>some p|none=>if MP.has X.D aB then none else MP.get X.S aB):=az rfl;have F0:Hid (aD (w.alloc (ach #[vi 0,vi 0] 165)) w.heap.size 165 #[vi 0,vi 0]):=az (aD.new _ _ _);have HB:Hid (acN w.heap.size w (w.alloc (ach #[vi 0,vi 0] 165))):=az ax;have H:=az (h.old HB.o);clear h;go_in;go_upto_region 1 with fail;generalize w.alloc (ach #[vi 0,vi 0] 165)=w0 at*;have c6:w0.cell? ⟨f,6,none⟩=some (.map (some X.bn)):=H.o.obj.cell 6;cases hg:MP.get X.N aB with
 |some p =>
  obtain⟨pb,pp⟩:=p;rw[hg]at HV;have L:=mg H.o.now hg;clear hg;go_upto_region 2 with fail;have FZ:Hid (aD (w0.alloc (ach #[vi pb,vi pp] 165)) w.heap.size 165 #[vi 0,vi 0]):=az (F0.o.alloc _);have FY:Hid (aD (w0.alloc (ach #[vi pb,vi pp] 165)) w0.heap.size 165 #[vi pb,vi pp]):=az (aD.new _ _ _);have Kv:Hid (acN w.heap.size w (w0.alloc (ach #[vi pb,vi pp] 165))):=az (HB.o.alloc HB.o.size _);clear F0 HB H L c6;generalize w0.alloc (ach #[vi pb,vi pp] 165)=wz at*;generalize w0.heap.size=gz at*;obtain⟨d0,d1,f0,f1⟩:=bO FZ.o;obtain⟨y0,y1,_,_⟩:=bO FY.o
  go_wp2_with fail;obtain⟨hf,hw⟩:=vT (vi pb) (vi pp) FZ.o Kv.o aj;refine ac5 (sO hf _ rfl rfl) rfl ?_;rw[HV.o];exact⟨rfl,hw⟩
 |none =>
  rw[hg]at HV;have L:=mh H.o.now hg;clear hg;go_upto_region 4 with fail;have F1:Hid (aD (w0.alloc (ach #[vi 0,vi 0] 165)) w.heap.size 165 #[vi 0,vi 0]):=az (F0.o.alloc _);have HB1:Hid (acN w.heap.size w (w0.alloc (ach #[vi 0,vi 0] 165))):=az (HB.o.alloc HB.o.size _);have H1:Hid (bP aA (w0.alloc (ach #[vi 0,vi 0] 165)) f X):=az (H.o.old ax);clear c6 L H HB F0;generalize w0.alloc (ach #[vi 0,vi 0] 165)=w1 at*;have c7:w1.cell? ⟨f,7,none⟩=some (.map (some X.bg)):=H1.o.obj.cell 7;cases hd:MP.get X.D aB with
  |some p =>
   obtain⟨pb,pp⟩:=p;have hh:MP.has X.D aB=true:=by rw[MP.has,hd];rfl
   rw[hh]at HV;have L:=mg H1.o.gone hd;clear hd hh;go_upto_region 5 with fail;have FZ:Hid (aD (w1.alloc (ach #[vi pb,vi pp] 165)) w.heap.size 165 #[vi 0,vi 0]):=az (F1.o.alloc _);have FY:Hid (aD (w1.alloc (ach #[vi pb,vi pp] 165)) w1.heap.size 165 #[vi pb,vi pp]):=az (aD.new _ _ _);have Kv:Hid (acN w.heap.size w (w1.alloc (ach #[vi pb,vi pp] 165))):=az (HB1.o.alloc HB1.o.size _);clear F1 HB1 H1 L c7;generalize w1.alloc (ach #[vi pb,vi pp] 165)=wz at*;generalize w1.heap.size=gz at*;obtain⟨d0,d1,f0,f1⟩:=bO FZ.o;obtain⟨y0,y1,_,_⟩:=bO FY.o;go_wp2_with fail
   obtain⟨hf,hw⟩:=vT (vi 0) (vi 0) FZ.o Kv.o aj;refine ac5 (sO hf _ rfl rfl) rfl ?_;rw[HV.o];exact⟨rfl,hw⟩
  |none =>
   have hh:MP.has X.D aB=false:=by rw[MP.has,hd];rfl
   rw[hh]at HV;have L:=mh H1.o.gone hd;clear hd hh;go_upto_region 7 with fail;have F2:Hid (aD (w1.alloc (ach #[vi 0,vi 0] 165)) w.heap.size 165 #[vi 0,vi 0]):=az (F1.o.alloc _);have HB2:Hid (acN w.heap.size w (w1.alloc (ach #[vi 0,vi 0] 165))):=az (HB1.o.alloc HB1.o.size _);have H2:Hid (bP aA (w1.alloc (ach #[vi 0,vi 0] 165)) f X):=az (H1.o.old ax);clear c7 L H1 HB1 F1;generalize w1.alloc (ach #[vi 0,vi 0] 165)=w2 at*;have c5:w2.cell? ⟨f,5,none⟩=some (.map (some X.bs)):=H2.o.obj.cell 5;cases hs:MP.get X.S aB with
   |some p =>
    obtain⟨pb,pp⟩:=p;rw[hs]at HV;have L:=mg H2.o.bD hs;clear hs;go_upto_region 8 with fail;have FZ:Hid (aD (w2.alloc (ach #[vi pb,vi pp] 165)) w.heap.size 165 #[vi 0,vi 0]):=az (F2.o.alloc _);have FY:Hid (aD (w2.alloc (ach #[vi pb,vi pp] 165)) w2.heap.size 165 #[vi pb,vi pp]):=az (aD.new _ _ _);have Kv:Hid (acN w.heap.size w (w2.alloc (ach #[vi pb,vi pp] 165))):=az (HB2.o.alloc HB2.o.size _);clear F2 HB2 H2 L c5;generalize w2.alloc (ach #[vi pb,vi pp] 165)=wz at*;generalize w2.heap.size=gz at*;obtain⟨d0,d1,f0,f1⟩:=bO FZ.o;obtain⟨y0,y1,_,_⟩:=bO FY.o
    go_wp2_with fail;obtain⟨hf,hw⟩:=vT (vi pb) (vi pp) FZ.o Kv.o aj;refine ac5 (sO hf _ rfl rfl) rfl ?_;rw[HV.o];exact⟨rfl,hw⟩
   |none =>
    rw[hs]at HV;have L:=mh H2.o.bD hs;clear hs;go_upto_region 8 with fail;have FZ:Hid (aD (w2.alloc (ach #[vi 0,vi 0] 165)) w.heap.size 165 #[vi 0,vi 0]):=az (F2.o.alloc _);have FY:Hid (aD (w2.alloc (ach #[vi 0,vi 0] 165)) w2.heap.size 165 #[vi 0,vi 0]):=az (aD.new _ _ _);have Kv:Hid (acN w.heap.size w (w2.alloc (ach #[vi 0,vi 0] 165))):=az (HB2.o.alloc HB2.o.size _);clear F2 HB2 H2 L c5;generalize w2.alloc (ach #[vi 0,vi 0] 165)=wz at*;generalize w2.heap.size=gz at*;obtain⟨d0,d1,f0,f1⟩:=bO FZ.o;obtain⟨y0,y1,_,_⟩:=bO FY.o;go_wp2_with fail;obtain⟨hf,hw⟩:=vT (vi 0) (vi 0) FZ.o Kv.o aj
    refine ac5 (sO hf _ rfl rfl) rfl ?_;rw[HV.o];exact⟨rfl,hw⟩
def yM {c:NP.bX}(h:c.ok)(j p:Int):∀y∈(NP.bQ c j p).1.1,y<256:=by
 unfold NP.bQ;dsimp only;split;rename_i h0;dsimp only;split;intro y hy;rw[(List.mem_replicate.1 hy).2];decide;intro y hy;unfold NP.asked at h0;split at h0;cases h0;split at h0;rename_i h1;have hk:j.toNat<c.bs.length:=by rw[h.blocks];omega
 have hb:=NP.bL (d:=(default:NP.NZ)) hk;have hp:p.toNat<(c.bs.getD j.toNat default).ps.length:=by rw[h.pages _ hb];omega
 exact h.small _ hb _ (NP.bL (d:=[]) hp) y hy;cases h0;simp
def dm.Fit.fit (h:X.Fit):X.G.fit X.M.P:=iL.fit_of rfl (h.lL.fit h.bI.2.1 h.bI.2.2.2.1)
def dm.Fit.left (h:X.Fit):wrap64 (X.G.aC-wrap64 ((aN 4 X.G.l:Nat)-X.G.bad))=FP.left X.G.view/\ -70000<=FP.left X.G.view/\FP.left X.G.view<=140000:=by
 have hg:=h.qE;have hcl:=oh 4 X.G.l;have hgl:=h.WS;have hd:=h.bI;unfold FP.left wrap64;dsimp only[iL.view];omega
def Kw (h:bP aA w f X)(hx:X.Fit):ac4 prog 169 #[ptr f] w λe w'=>e=ab4 (acg (FP.enough X.G.view X.M.P))/\acN w.heap.size w w':=by
 obtain⟨c0,c1,c2,c3,c4,c5,c6,c7,c8,c9,c10,c11⟩:=h.cells;have H:=az h;have HX:=az hx;have hlf:=hx.left;have HW:=az hlf.1;have hl1:=hlf.2;have hcl:=oh 0 X.G.l;have hgl:=hx.WS;have hd:=hx.bI;have hcm:aN 0 X.G.l*X.M.P<=128*32:=Nat.mul_le_mul aa aa;have HV:Hid (FP.enough X.G.view X.M.P=decide ((if bT X.G X.M.P=((aN 0 X.G.l:Nat):Int)*X.M.P then FP.left X.G.view+1+1 else FP.left X.G.view+1)<=((aN 0 X.G.l:Nat):Int))):=az rfl;have hcz:((aN 0 X.G.l:Nat):Int)*(X.M.P:Int)=((aN 0 X.G.l*X.M.P:Nat):Int):=by rw[Int.natCast_mul]
 have q3:adk.wrap (((aN 0 X.G.l:Nat):Int)*(X.M.P:Int))=((aN 0 X.G.l:Nat):Int)*(X.M.P:Int):=adl _ (by rw[hcz];omega);clear h hx c2 c3 c4 c5 c6 c7 c8 c9 c10 c11 hlf hcz hcm hgl;go_in;go_wp2_with fail;refine(Hy H.o.held.mgr).mono ?_;rw[HW.o];rintro e w1 ⟨rfl,hb1⟩;have HB1:=az hb1;have H1:=az (H.o.old hb1);have c0:=cell_below c0 hb1;have c1:=cell_below c1 hb1;clear hb1 H;have HRO:Hid (∀n:Sub w1,ac4 prog _ #[ptr X.m] n.w λe w'=>e=ab4 (vi (bT X.G X.M.P))/\acN n.w.heap.size n.w w'):=az (λn=>fP (H1.o.held.mgr.old n.below) (H1.o.held.aW.old n.below) HX.o.fit)
 have yB:Hid (∀n:Sub w1,ac4 prog _ #[ptr X.m] n.w λe w'=>e=ab4 (vi (aN 0 X.G.l:Nat))/\acN n.w.heap.size n.w w'):=az (λn=>mG (H1.o.held.mgr.old n.below));have AX:Hid (∀n:Sub w1,ac4 prog _ #[ptr X.G.k] n.w λe w'=>e=ab4 (adA #[vi X.M.B,vi X.M.P,vi X.M.S])/\acN n.w.heap.size n.w w'):=az (λn=>iZ (H1.o.held.aW.old n.below));have hf:=aaH;generalize bT X.G X.M.P=rm at*;generalize FP.left X.G.view=lf at*;generalize aN 0 X.G.l=cn at*;have q1:adk.wrap (lf+1)=lf+1:=adl _ aa;have q2:adk.wrap (lf+1+1)=lf+1+1:=adl _ aa
 go_upto_region 2 with fail;have c0':=c0;have c1':=c1;have c0:=Sub.cell c0;have c1:=Sub.cell c1;refine aZ ah ah ?_;repeat (go_big_quiet_step (first|exact fM (HRO.o _)|exact fM (yB.o _)|exact fM (AX.o _)))
 refine adE ?_;rintro _ ⟨nq,rfl⟩;have Ar:=az (HB1.o.trans (nq.below.mono HB1.o.size));have H2:=az (H1.o.old nq.below);have e1:nq.w.cell? ⟨f,1,none⟩=some (ptr X.m):=H2.o.obj.cell 1;clear c0 c1 c0' c1' HRO AX;by_cases hr:rm=(cn:Int)*X.M.P
 ·have hr':(rm==(cn:Int)*X.M.P)=true:=by simp[hr]
  have HRR:=az hr;clear hr;go_wp2_with fail;refine(yB.o nq).mono ?_;rintro e w3 ⟨rfl,hb3⟩;have HB3:=az (Ar.o.trans (hb3.mono Ar.o.size));clear hb3;go_wp2;go_ret;exact⟨aU (by rw[HV.o,if_pos HRR.o]),HB3.o⟩
 have hr':(rm==(cn:Int)*X.M.P)=false:=by simp[hr]
 have HRR:=az hr;clear hr;go_wp2_with fail;refine(yB.o nq).mono ?_;rintro e w3 ⟨rfl,hb3⟩;have HB3:=az (Ar.o.trans (hb3.mono Ar.o.size));clear hb3;go_wp2;go_ret;exact⟨aU (by rw[HV.o,if_neg HRR.o]),HB3.o⟩
def Iz (h:bP aA w f X)(hx:X.Fit)(hl:X.later.all (λx=> !x)=true):ac4 prog 143 #[ptr f] w λe w'=>e=ab4 (vi 0)/\acN w.heap.size w w':=by
 have HL:Hid (∀k,k<X.later.length->X.later.getD k false=false):=az (λk hk=>by
  have:=List.all_eq_true.1 hl _ (NP.bL (d:=false) hk)
  simpa using this)
 have hll:=hx.rz;have hd:=hx.bI;have hlb:X.later.length<=128:=aa;have HB:Hid (acN w.heap.size w (w.alloc (ach #[acg false,acg true] 4))):=az ax;have FB:Hid (aD (w.alloc (ach #[acg false,acg true] 4)) w.heap.size 4 #[acg false,acg true]):=az (aD.new _ _ _);have H:=az (h.old HB.o);clear h hx hl hll hd;go_in;go_wp2_with fail;generalize w.alloc (ach #[acg false,acg true] 4)=w0 at*;have c10:w0.cell? ⟨f,10,none⟩=some (aco (some ⟨X.lg,0,none⟩) X.later.length X.lc):=H.o.obj.cell 10;have b0:w0.cell? ⟨w.heap.size,0,none⟩=some (acg false):=FB.o.cell 0
 have b1:w0.cell? ⟨w.heap.size,1,none⟩=some (acg true):=FB.o.cell 1;go_loop [9] (λi=>∃n:Nat,n<=2/\i=vi n) (λi=>2-(intOf i).toNat)
 case atStart=>exact⟨0,aa,rfl⟩
 case round =>
  obtain⟨n,hn,rfl⟩:=hrel;by_cases hlt:n<2
  ·have hbn:w0.cell? ⟨w.heap.size,n,none⟩=some (acg (decide (n=1))):=by
    obtain rfl|rfl:n=0\/n=1:=aa;exact b0;exact b1
   generalize decide (n=1)=nd at*;clear b0 b1;have hn0:(0:Int)<=(n:Int):=aa;have hn1:(n:Int)<2:=aa;go_wp2_with fail;go_loop [18] (λi=>∃k:Nat,k<=X.later.length/\i=vi k) (λi=>X.later.length-(intOf i).toNat)
   case atStart=>exact⟨0,aa,rfl⟩
   case round =>
    obtain⟨k,hk,rfl⟩:=hrel;by_cases hlk:k<X.later.length
    ·have hck:w0.cell? ⟨X.lg,k,none⟩=some (acg false):=by
      rw[H.o.later.cell aa,List.getElem?_map,List.getElem?_eq_getElem hlk];have:=HL.o k hlk;rw[aah,List.getElem?_eq_getElem hlk]at this;simpa using this
     have hk0:(0:Int)<=(k:Int):=aa;have hk1:(k:Int)<(X.later.length:Int):=aa;go_wp2_with fail;go_round
     case rel=>exact⟨k+1,aa,by go_num⟩
     case measure=>simp[intOf];omega
    obtain rfl:k=X.later.length:=aa;go_wp2_with fail;go_round
    case rel=>exact⟨n+1,aa,by go_num⟩
    case measure=>simp[intOf];omega
  obtain rfl:n=2:=aa;go_wp2;go_ret;exact⟨rfl,HB.o⟩
def Bb (hb:aD w' g 165 #[v0,v1])(tmps:Array acK)(h2:tmps[4]?=some (adj (some ⟨g,0,none⟩)))(h4:tmps[5]?=some (vi n)) :
  (results Tryz.f146 tmps).run prog w'=.ok (adg #[adA #[v0,v1],vi n]) w':=by
 have g0:w'.cell? ⟨g,0,none⟩=some v0:=hb.cell 0;have g1:w'.cell? ⟨g,1,none⟩=some v1:=hb.cell 1;simp only[results,results146];simp[go_sem,h2,h4,g0,g1]
def Bc (hb:aD w' g 165 #[v0,v1])(tmps:Array acK)(h2:tmps[6]?=some (adj (some ⟨g,0,none⟩)))(h4:tmps[7]?=some (vi n)) :
  (results Tryz.f115 tmps).run prog w'=.ok (adg #[adA #[v0,v1],vi n]) w':=by
 have g0:w'.cell? ⟨g,0,none⟩=some v0:=hb.cell 0;have g1:w'.cell? ⟨g,1,none⟩=some v1:=hb.cell 1;simp only[results,results115];simp[go_sem,h2,h4,g0,g1]
def WV (aA:Nat)(w:acL)(f:Nat)(X:dm)(p:FP.cB)(V:FP.Ft)(e:Ending)(w':acL):Prop :=
 ∃X',e=ab4 (adg #[dz p,vi 0])/\aQ aA w f X w' X'/\X'.view=V
variable{w':acL}{X':dm}
def aQ.ahead (h:bP aA w f X)(hb:acN w.heap.size w W)(q:aQ aA W f X w' X'):aQ aA w f X w' X':=(aQ.aX h hb).trans q
def aQ.iT (h:aQ aA w f X w' X')(q:acN w.heap.size w' W)(h2:bP aA W f X'):aQ aA w f X W X' :=
 ⟨h2,⟨q.os.trans h.aJ.os,q.tape.trans h.aJ.tape,q.output.trans h.aJ.output,Nat.le_trans h.aJ.size q.size,λk hk hn=>(q.block k hk).trans (h.aJ.block k hk hn)⟩,h.foot,h.key⟩
def Dl (h:bP aA w f X)(hG:gW X.M.view)(hK:X.G.view.ok X.M.view)(a:Option Addr)(l:List Nat)(c:Nat)(hr:dx aA w a l)(hq:(Mg.program l X.M.view X.G.view).1.2.2=0)(hbase:aA<=w.heap.size) :
  ac4 prog 146 #[ptr f,aco a l.length c] w (WV aA w f X ⟨(Mg.program l X.M.view X.G.view).1.1,(Mg.program l X.M.view X.G.view).1.2.1⟩ {X.view with c:=(Mg.program l X.M.view X.G.view).2.1,g:=(Mg.program l X.M.view X.G.view).2.2}):=by
 have F0:Hid (aD (w.alloc (ach #[vi 0,vi 0] 165)) w.heap.size 165 #[vi 0,vi 0]):=az (aD.new _ _ _);have HB:Hid (acN w.heap.size w (w.alloc (ach #[vi 0,vi 0] 165))):=az ax;have H0:=az h;have H:=az (h.old HB.o);have HX:=az hG;have lM:=az hK;have HR:=az (hr.old HB.o);clear h hG hK hr;go_in;go_upto_region 1 with fail;generalize w.alloc (ach #[vi 0,vi 0] 165)=w0 at*;have c1:w0.cell? ⟨f,1,none⟩=some (ptr X.m):=H.o.obj.cell 1;have HP:=az (mgr.nC H.o.held HX.o.ok lM.o a l c HR.o);change Hid (ac4 _ _ _ _ (qh aA w0 X.m X.G X.M (Mg.program l X.M.view X.G.view))) at HP
 generalize Mg.program l X.M.view X.G.view=r at*;obtain⟨⟨x,y,z⟩,V,g'⟩:=r;dsimp only at hq ⊢;subst hq;go_loop [8] (λ_=>True) (λ_=>0)
 case atStart=>trivial
 case round =>
  go_wp2_with fail;refine HP.o.mono ?_;rintro e w1 ⟨M2,rfl,hg,hv⟩;have hgo:=H.o.goes hg;have Ky:∀n,X.foot f n->n<w.heap.size:=H0.o.lt;have F1:=az (F0.o.aJ hgo.aJ (λe=>by have:=Ky _ e;omega));have HG:=az (aQ.ahead H0.o HB.o hgo);have HVV:=az hv;have HF:Hid (∀n,{X with G:=X.G.lay g',M:=M2:dm}.foot f n->n≠w.heap.size):=az (λn e e2=>by
   rcases hgo.foot n e with h1|h1
   have:=Ky _ h1;omega
   have:=F0.o.lt;omega)
  obtain⟨d0,d1,f0,f1⟩:=bO F1.o;clear hg hv hgo Ky HP;go_wp2_with fail;have hset:aP (λn=>n=w.heap.size) w1 ((w1.setCell ⟨w.heap.size,0,none⟩ (vi x)).setCell ⟨w.heap.size,1,none⟩ (vi y)):=((aP.refl (λn=>n=w.heap.size) w1).setCell (p:=⟨w.heap.size,0,none⟩) (ack rfl) _).setCell (p:=⟨w.heap.size,1,none⟩) (ack rfl) _;refine ac5 (Bb ((F1.o.bB 0 (vi x)).bB 1 (vi y)) _ rfl rfl) rfl ⟨_,rfl,HG.o.iT ?_ ?_,?_⟩;exact⟨hset.os,hset.tape,hset.output,hset.size,λk hk=>hset.block k (Nat.lt_of_lt_of_le hk HG.o.size) aa⟩;exact HG.o.at_.aJ hset (λn e=>by subst e;exact Loose.blk hbase F1.o) (λn e e2=>HF.o n e e2)
  show FP.Ft.mk _ _ _ _ _ _ _ _ _ _ _ _=_;rw[HVV.o]
variable{V:FP.Ft}
def Bd {F:FP.Ft}{aL:Int}{aB:Nat}{b:List Nat}{p:FP.cB}(h:F.put aL aB b=some (p,V)) :
  F.later.all (λx=> !x)=true/\FP.enough F.g F.c.P=true/\(TP.write ⟨aL,aB,F.seq,F.aM⟩ b).2=0/\(Mg.program (TP.write ⟨aL,aB,F.seq,F.aM⟩ b).1 F.c F.g).1.2.2=0 /\
   p=⟨(Mg.program (TP.write ⟨aL,aB,F.seq,F.aM⟩ b).1 F.c F.g).1.1,(Mg.program (TP.write ⟨aL,aB,F.seq,F.aM⟩ b).1 F.c F.g).1.2.1⟩ /\
   V={F with c:=(Mg.program (TP.write ⟨aL,aB,F.seq,F.aM⟩ b).1 F.c F.g).2.1,g:=(Mg.program (TP.write ⟨aL,aB,F.seq,F.aM⟩ b).1 F.c F.g).2.2,seq:=F.seq+1}:=by
 unfold FP.Ft.put at h;split at h;rename_i h1;simp only[ac8]at h1;dsimp only at h;split at h;rename_i h2;split at h;rename_i h3;simp only[Option.some.injEq,Prod.mk.injEq]at h;exact⟨h1.1,h1.2,h2,h3,h.1.symm,h.2.symm⟩;cases h;cases h;cases h
def D9 {t:TP.Tag}{b:List Nat}(h:(TP.write t b).2=0):t.seq<4611686018427387904/\t.aM<4611686018427387904/\t.aB<8192/\b.length<=512:=by
 unfold TP.write at h;split at h;rename_i h1;simp only[ac8]at h1;have h2:=yJ h1.1;have h3:=vP h1.2;exact⟨h2.2.1,h2.2.2,h2.1,aa⟩;cases h
def rC {t:TP.Tag}{b:List Nat}(h:∀y∈b,y<256):∀y∈(TP.write t b).1,y<256:=by
 unfold TP.write;split;exact TP.Ha h;simp
def lY (W:acL)(g i j:Nat)(u v:acK):aP (λn=>n=g) W ((W.setCell ⟨g,i,none⟩ u).setCell ⟨g,j,none⟩ v) :=
 ((aP.refl (λn=>n=g) W).setCell (p:=⟨g,i,none⟩) (ack rfl) _).setCell (p:=⟨g,j,none⟩) (ack rfl) _
variable{i:Nat}
def nH (u v:acK)(hs:w.heap.size<=W.heap.size)(hg:w.heap.size<=g):acN w.heap.size W ((W.setCell ⟨g,i,none⟩ u).setCell ⟨g,j,none⟩ v):=by
 have h:=lY W g i j u v;exact⟨h.os,h.tape,h.output,h.size,λk hk=>h.block k aa aa⟩
def yN (b:List Nat):∀(n:Nat) (c:NP.bX) (g:Mg),(Mg.progTo b n c g).2.2.aC=g.aC/\(Mg.progTo b n c g).2.2.bad=g.bad
 |0,_,_=>⟨rfl,rfl⟩
 |n+1,c,g0=>by
  have h0:(if g0.at_= -1 then g0.begun else g0).aC=g0.aC/\(if g0.at_= -1 then g0.begun else g0).bad=g0.bad:=by
   split;unfold Mg.begun;split<;>exact⟨rfl,rfl⟩;exact⟨rfl,rfl⟩
  unfold Mg.progTo;dsimp only;generalize (if g0.at_= -1 then g0.begun else g0)=g at*;rw[<-h0.1,<-h0.2];split;exact⟨rfl,rfl⟩;split;exact yN b n _ _;split;dsimp only;split<;>exact⟨rfl,rfl⟩;split<;>exact⟨rfl,rfl⟩
def vU (b:List Nat)(c:NP.bX)(g:Mg):(Mg.program b c g).2.2.aC=g.aC/\(Mg.program b c g).2.2.bad=g.bad:=by
 unfold Mg.program;split;exact⟨rfl,rfl⟩;split;exact⟨rfl,rfl⟩;exact yN _ _ _ _
def sP (g:Mg)(k:Int):(g.drop k).2.aC=g.aC/\(g.drop k).2.bad=g.bad:=by
 unfold Mg.drop;split<;>exact⟨rfl,rfl⟩
section
variable{F V:FP.Ft}{p:FP.cB}
def Fit.cap (h:Fit F):F.cap<=4096:=by
 have hd:=sM h.good.ok;have hr:=h.res;show ((F.c.B:Int)-F.bad-F.aC-1)*F.c.P-2<=4096;by_cases h0:0<=((F.c.B:Int)-F.bad-F.aC-1);have:((F.c.B:Int)-F.bad-F.aC-1)*F.c.P<=128*32:=Int.mul_le_mul aa aa aa aa;omega;have:=Int.mul_nonpos_of_nonpos_of_nonneg (a:=((F.c.B:Int)-F.bad-F.aC-1)) (b:=(F.c.P:Int)) aa aa;omega
def Fit.aB (h:Fit F){aB:Nat}(h0:F.logical aB=0):0<=(aB:Int)/\(aB:Int)<8192/\aB≠0:=by
 unfold FP.Ft.logical at h0;split at h0;cases h0;split at h0;cases h0;rename_i h1;have:=h.cap;omega
def Fit.put (h:Fit F){aL:Int}{aB:Nat}{b:List Nat}(hb:∀y∈b,y<256)(e:F.put aL aB b=some (p,V)):Fit V/\V.bD=F.bD/\V.now=F.now/\V.gone=F.gone/\V.c.P=F.c.P/\V.aC=F.aC/\V.bad=F.bad/\V.c.S=F.c.S/\V.c.B=F.c.B/\V.aM=F.aM/\V.later=F.later:=by
 obtain⟨_,_,_,_,_,rfl⟩:=Bd e;have hs:=rC (t:=⟨aL,aB,F.seq,F.aM⟩) hb;have ha:=kC (g:=F.g) (c:=F.c) hs;have hsm:=vU (TP.write ⟨aL,aB,F.seq,F.aM⟩ b).1 F.c F.g;refine⟨⟨ha.good h.good,nP hs h.good h.lL,h.res,?_,h.slow,h.oG,h.kQ,h.rz.trans ha.bI.1.symm,h.lC⟩,rfl,rfl,rfl,ha.bI.2.1,rfl,rfl,ha.bI.2.2,ha.bI.1,rfl,rfl⟩;dsimp only;rw[hsm.1,hsm.2];exact h.qE
def Fit.now (h:Fit F)(hm:Low m):Fit {F with now:=m}:=⟨h.good,h.lL,h.res,h.qE,h.slow,hm,h.kQ,h.rz,h.lC⟩
end
def dY (aA:Nat)(w:acL)(f:Nat)(X:dm)(r:Int×FP.Ft)(e:Ending)(w':acL):Prop:=∃X',e=ab4 (vi r.1)/\aQ aA w f X w' X'/\X'.view=r.2
def dY.mk {r:Int×FP.Ft}(hr:r=(n,V))(hg:aQ aA w f X w' X')(hv:X'.view=V):dY aA w f X r (ab4 (vi n)) w':=⟨X',by rw[hr],hg,by rw[hr];exact hv⟩
section
variable{b:Nat}{m:Mp FP.cB}
def Ea (h:bP aA w f X)(hx:X.Fit)(k:Int):ac4 prog 109 #[ptr X.m,vi k] w λe w'=>e=ab4 (vi (X.G.view.drop k).1)/\aQ aA w f X w' {X with G:=X.G.lay (X.G.view.drop k).2}:=by
 refine(mgr.rq h.held hx.lL hx.bI.2.2.2.1 k).mono ?_;rintro e w' ⟨he,hg⟩;exact⟨he,h.goes hg⟩
def aQ.far {t:TypeId}{cs:Array acK}(h:aQ aA w f X w' X')(hb:aD w g t cs)(hn:¬X.foot f g):aD w' g t cs:=hb.aJ h.aJ hn
def xH (h:bz w b .u32 dz m)(j:Int):∃w',J7 149 118 (.map (some b)) (.int .u32 j) w w'/\bz w' b .u32 dz (MP.del m j)/\w.grownBy w' (some b):=by
 obtain⟨w',h1,h2,h3⟩:=h.delete (P:=prog) underlying149 underlying118 j;exact⟨w',⟨h1⟩,h2,h3⟩
def rE (h:bz w b .u32 dz m)(j pb pp:Int):∃w',ER 149 (.map (some b)) (.int .u32 j) (.agg #[vi pb,vi pp]) w w'/\bz w' b .u32 dz (MP.put m j ⟨pb,pp⟩)/\w.grownBy w' (some b):=by
 obtain⟨w',h1,h2,h3⟩:=h.update (P:=prog) underlying149 underlying118 j (⟨pb,pp⟩:FP.cB);exact⟨w',⟨h1⟩,h2,h3⟩
def vV (h:bz w b .u32 dz m)(j:Int):∃(pb pp:Int) (ok:Bool),(abw 149 (.map (some b)) (.int .u32 j) true).run prog w=.ok (adg #[adA #[vi pb,vi pp],acg ok]) w/\(ok=true->MP.get m j=some ⟨pb,pp⟩)/\(ok=false->MP.get m j=none):=by
 cases hg:MP.get m j with
 |some p=>exact⟨p.block,p.aB,true,mg h hg,λ_=>rfl,λe=>by cases e⟩
 |none=>exact⟨0,0,false,mh h hg,λe=>(by cases e),λ_=>rfl⟩
def drop1 (F:FP.Ft)(aB:Int):FP.Ft:=match MP.get F.now aB with
 |some p=>{F with g:=(F.g.drop p.block).2,now:=MP.del F.now aB}
 |none=>F
def Be (F:FP.Ft)(aB:Int):(drop1 F aB).bD=F.bD/\(drop1 F aB).gone=F.gone:=by
 unfold drop1;split<;>exact⟨rfl,rfl⟩
def drop_eq (F:FP.Ft)(aB:Nat):F.drop aB=if F.logical aB≠0 then (F.logical aB,F) else
  match MP.get F.bD aB with
  |some p=>(0,{drop1 F aB with gone:=MP.put F.gone aB p})
  |none=>(0,drop1 F aB):=by
 unfold FP.Ft.drop drop1;dsimp only;split;rfl;cases MP.get F.now aB<;>cases MP.get F.bD aB<;>rfl
def rq (h:bP aA w f X)(hx:X.Fit)(aB:Nat)(hp:aB<4294967296):ac4 prog 72 #[ptr f,vw aB] w (dY aA w f X (X.view.drop aB)):=by
 have H:=az h;have HX:=az hx;have HV:=az (drop_eq X.view aB);have HD1:Hid (drop1 X.view aB=match MP.get X.N aB with|some p=>{X.view with g:=(X.G.view.drop p.block).2,now:=MP.del X.N aB}|none=>X.view):=az rfl;have lX:=az (Be X.view aB);generalize drop1 X.view aB=V1 at*;clear h hx;go_in;go_wp2_with fail;refine(rA H.o HX.o aB hp).mono ?_;rintro e w1 ⟨rfl,hb1⟩;have HB1:=az hb1;have H1:=az (H.o.old hb1);clear hb1;generalize X.view.logical aB=lg at*;by_cases h0:lg=0
 ·subst h0;rw[if_neg ai]at HV;have c6:w1.cell? ⟨f,6,none⟩=some (.map (some X.bn)):=H1.o.obj.cell 6;obtain⟨pb,pp,ok,L,hsome,hnone⟩:=vV H1.o.now aB;have SQ:=az hsome;have QS:=az hnone;clear hsome hnone;go_upto_region 5 with fail;have FB:Hid (aD (w1.alloc (ach #[vi pb,vi pp] 165)) w1.heap.size 165 #[vi pb,vi pp]):=az (aD.new _ _ _);have H2:Hid (bP aA (w1.alloc (ach #[vi pb,vi pp] 165)) f X):=az (H1.o.old ax);have HB2:Hid (acN w.heap.size w (w1.alloc (ach #[vi pb,vi pp] 165))):=az (HB1.o.alloc HB1.o.size _)
  have Zd:Hid (¬X.foot f w1.heap.size):=az (λe=>by have:=H1.o.lt _ e;omega);clear L H1 HB1 c6;generalize w1.alloc (ach #[vi pb,vi pp] 165)=w2 at*;generalize w1.heap.size=g at*;go_upto_if 25 with fail;go_cut [26] from 26 to 53 (λ_ wx=>∃Y,Hid (aQ aA w f X wx Y/\Y.view=V1))
  case first =>
   cases ok
   ·rw[QS.o rfl]at HD1;have HG2:=az (aQ.aX H.o HB2.o);go_wp2;go_meet;exact⟨X,az ⟨HG2.o,HD1.o.symm⟩⟩
   rw[SQ.o rfl]at HD1;go_upto_region 6 with fail;obtain⟨d0,d1,_,_⟩:=bO FB.o;have c1:w2.cell? ⟨f,1,none⟩=some (ptr X.m):=H2.o.obj.cell 1;have HS:Hid (w2.drew.cell? ⟨f,1,none⟩=some (ptr X.m)/\w2.drew.cell? ⟨g,0,none⟩=some (vi pb)):=az ⟨c1,d0⟩;have OB:=az (Ea (H2.o.old au) HX.o pb);have nS:Hid (∀W,aQ aA w2.drew f X W {X with G:=X.G.lay (X.G.view.drop pb).2}->(W.cell? ⟨f,1,none⟩=some (ptr X.m)/\W.cell? ⟨g,0,none⟩=some (vi pb))) :=
    az (λW q=>⟨q.at_.obj.cell 1,(q.far (FB.o.old au) Zd.o).cell 0⟩)
   go_region_held3 (λw'=>w'.cell? ⟨f,1,none⟩=some (ptr X.m)/\w'.cell? ⟨g,0,none⟩=some (vi pb))
    (first|exact HS.o|exact nS.o _ (by assumption))
    (first|(go_at_call 109;refine OB.o.mono ?_;rintro e w3 ⟨rfl,hg3⟩))
   have iR:=az ((aQ.aX H.o HB2.o).trans ((aQ.aX H2.o au).trans hg3));clear hg3 nS HS OB c1 d0 d1 H2;obtain⟨w4,hdel,SV,IA⟩:=xH iR.o.at_.now aB;have vQ:=az hdel;have qK:=az (iR.o.trans (iR.o.at_.Fp IA SV));have c6:w3.cell? ⟨f,6,none⟩=some (.map (some X.bn)):=iR.o.at_.obj.cell 6;clear hdel SV IA;go_wp2_with (at_delete;refine eu rfl (.tmp 36) (.tmp 37) rfl rfl rfl (vQ.o.run _) ?_);go_meet;exact⟨_,az ⟨qK.o,HD1.o.symm⟩⟩
  case rest =>
  obtain⟨Y,hcut⟩:=hcut;have MM:=az hcut.o.1;have Ze:=az hcut.o.2;have HYS:Hid (Y.S=X.S/\Y.D=X.D):=az ⟨by have:=lX.o.1;rw[<-Ze.o]at this;exact this,by have:=lX.o.2;rw[<-Ze.o]at this;exact this⟩;clear hcut FB H2 HB2 Zd SQ QS HD1 lX;have c5:wc.cell? ⟨f,5,none⟩=some (.map (some Y.bs)):=MM.o.at_.obj.cell 5;cases hs:MP.get X.S aB with
  |none =>
   rw[hs]at HV;have L:=mh MM.o.at_.bD (j:=aB) (by rw[HYS.o.1];exact hs);have IB:=az (MM.o.old (ak.alloc aj (ach #[vi 0,vi 0] 165)));clear hs;go_wp2;go_ret;exact dY.mk HV.o IB.o Ze.o
  |some p =>
   obtain⟨pb,pp⟩:=p;rw[hs]at HV;have L:=mg MM.o.at_.bD (j:=aB) (by rw[HYS.o.1];exact hs);clear hs;go_upto_region 10 with fail;have FB:Hid (aD (wc.alloc (ach #[vi pb,vi pp] 165)) wc.heap.size 165 #[vi pb,vi pp]):=az (aD.new _ _ _);have IB:=az (MM.o.old (ak.alloc aj (ach #[vi pb,vi pp] 165)));clear L c5 MM;generalize wc.alloc (ach #[vi pb,vi pp] 165)=wd at*;generalize wc.heap.size=g at*;obtain⟨d0,d1,_,_⟩:=bO FB.o;have c7:wd.cell? ⟨f,7,none⟩=some (.map (some Y.bg)):=IB.o.at_.obj.cell 7;obtain⟨we,rG,hm,hgr⟩:=rE (IB.o.at_.old au).gone aB pb pp
   have HUP:=az rG;have AX:=az ((IB.o.old au).trans ((IB.o.at_.old au).zM hgr hm));clear rG hm hgr;have hup:=HUP.o.run;go_region_law (fail);all_goals
    go_wp2;go_ret;refine dY.mk HV.o AX.o ?_;rw[<-Ze.o,<-HYS.o.2]
 rw[if_pos h0]at HV;have HG:=az (aQ.aX H.o HB1.o);go_wp2;go_ret;exact dY.mk HV.o HG.o rfl
end
def older (F:FP.Ft)(aB:Int):FP.Ft:={F with g:=match MP.get F.now aB with|some old=>(F.g.drop old.block).2|none=>F.g}
def dm.fit_of (hv:X.view=V)(h:ft.Fit V):X.Fit:=by unfold dm.Fit;rw[hv];exact h
def SX (w:acL)(n m:Nat)(hm:n+m<=1000000):Own (w.alloc (ach (madeCells #[vb 0] (n+m)) 5)) w.heap.size (aco (some ⟨w.heap.size,0,none⟩) n (n+m)) (List.replicate n 0):=by
 refine⟨by simp[bv],acm ⟨w.heap.size,n+m,madeCells #[vb 0] (n+m),by rw[abP],aj,heap_alloc_new w _,by rw[abP];omega,by unfold maxLen;omega,by simp[madeCells],?_⟩⟩;rw[toList_madeCells_one,abP,Nat.mul_one,List.take_replicate,Nat.min_eq_left aa,bv,List.map_replicate]
def OO (n m:Nat)(hm:n+m<=1000000)(w:acL):(Instr.makeSlice 23 (.int .i64 (n:Int)) (.int .i64 ((n:Int)+(m:Int)))).run prog w=.ok (.slice (some ⟨w.heap.size,0,none⟩) n (n+m)) (w.alloc (.cells (madeCells #[vb 0] (n+m)) 5)):=by
 obtain⟨i0,hi,hz0,hz1,hz2⟩:=info_parts l8;have:=run_make (P:=prog) w 23 5 i0 (vb 0) underlying23 hi hz0 .i64 .i64 (n:Int) ((n:Int)+(m:Int)) aa aa (by rw[hz2];omega) aa;rw[hz1]at this;rw[show ((n:Int)+(m:Int)).toNat=n+m by omega,Int.toNat_natCast,Nat.mul_one]at this;exact this
def SY (aC bad:Int)(a:Option Addr)(l:List Nat)(c:Nat)(w:acL)(h:bE w a l)(hl:l.length<=10000)(h1:0<=aC/\aC<=65535)(h2:0<=bad/\bad<=65535) :
  ac4 prog 117 #[vi aC,vi bad,aco a l.length c] w λe w'=>∃v,e=ab4 v/\Own w' w.heap.size v (FP.jJ aC bad l)/\acN w.heap.size w w':=by
 obtain⟨rn,rfl⟩:∃rn:Nat,aC=rn:=⟨aC.toNat,aa⟩;obtain⟨bn,rfl⟩:∃bn:Nat,bad=bn:=⟨bad.toNat,aa⟩;have HHD:Hid (FP.jJ (rn:Int) (bn:Int) l=[rn%256,rn/256,bn%256,bn/256,0,0,0,0]++l):=az (by
  have e1:((rn:Int)%256).toNat=rn%256:=aa
  have e2:((rn:Int)/256%256).toNat=rn/256:=aa
  have e3:((bn:Int)%256).toNat=bn%256:=aa
  have e4:((bn:Int)/256%256).toNat=bn/256:=aa
  unfold FP.jJ
  rw[e1,e2,e3,e4])
 have hmk:(Instr.makeSlice 23 (.int .i64 8) (.int .i64 (8+(l.length:Int)))).run prog w=.ok (aco (some ⟨w.heap.size,0,none⟩) 8 (8+l.length)) (w.alloc (ach (madeCells #[vb 0] (8+l.length)) 5)):=OO 8 l.length aa w;have HO:=az (SX w 8 l.length aa);have HB:Hid (acN w.heap.size w (w.alloc (ach (madeCells #[vb 0] (8+l.length)) 5))):=az ax;have zi:=az h;have hc:(8:Nat)<=8+l.length:=aa;clear h;go_in;go_upto_region 2 with fail;generalize w.alloc (ach (madeCells #[vb 0] (8+l.length)) 5)=w0 at*;have f0:=jd HO.o ai 0
 have f1:=jd HO.o ai 1;have f2:=jd HO.o ai 2;have f3:=jd HO.o ai 3;have e0:=mH HO.o ai (j:=0) ag;have e1:=mH HO.o ai (j:=1) ag;have e2:=mH HO.o ai (j:=2) ag;have e3:=mH HO.o ai (j:=3) ag;go_upto_region 3 with fail;have hbase:w.heap.size<=w0.heap.size:=HB.o.size;have HO4:=az (o9 (o9 (o9 (o9 HO.o ai 0 (rn%256)) ai 1 (rn/256)) ai 2 (bn%256)) ai 3 (bn/256));have pI:Hid (acN w.heap.size w ((((w0.setCell ⟨w.heap.size,0,none⟩ (vb (rn%256))).setCell ⟨w.heap.size,1,none⟩ (vb (rn/256))).setCell ⟨w.heap.size,2,none⟩ (vb (bn%256))).setCell ⟨w.heap.size,3,none⟩ (vb (bn/256)))):=az
  ((((HB.o.setCell (p:=⟨w.heap.size,0,none⟩) aj _).setCell (p:=⟨w.heap.size,1,none⟩) aj _).setCell (p:=⟨w.heap.size,2,none⟩) aj _).setCell (p:=⟨w.heap.size,3,none⟩) aj _)
 have HR4:Hid (bE ((((w0.setCell ⟨w.heap.size,0,none⟩ (vb (rn%256))).setCell ⟨w.heap.size,1,none⟩ (vb (rn/256))).setCell ⟨w.heap.size,2,none⟩ (vb (bn%256))).setCell ⟨w.heap.size,3,none⟩ (vb (bn/256))) a l):=az (by
  exact zi.o.below pI.o)
 change Code.wp _ _ _ _ ((((w0.setCell ⟨w.heap.size,0,none⟩ (vb (rn%256))).setCell ⟨w.heap.size,1,none⟩ (vb (rn/256))).setCell ⟨w.heap.size,2,none⟩ (vb (bn%256))).setCell ⟨w.heap.size,3,none⟩ (vb (bn/256)));clear e0 e1 e2 e3 f0 f1 f2 f3 HO HB hmk;generalize ((((w0.setCell ⟨w.heap.size,0,none⟩ (vb (rn%256))).setCell ⟨w.heap.size,1,none⟩ (vb (rn/256))).setCell ⟨w.heap.size,2,none⟩ (vb (bn%256))).setCell ⟨w.heap.size,3,none⟩ (vb (bn/256)))=w1 at*;obtain⟨v2,w2,hrun,ho2,hs2⟩:=ik (c:=c) HO4.o HR4.o (by simp;omega) pI.o.size;have RA:eH 23 23 23 (aco (some ⟨w.heap.size,0,none⟩) 8 (8+l.length)) (aco a l.length c) w1 v2 w2:=⟨hrun⟩
 have yz:=az ho2;have HB2:=az (pI.o.trans hs2.below);clear hrun ho2 hs2;go_wp2_with (at_builtin;refine wpList_append_run rfl (.tmp 30) (.tmp 31) rfl rfl rfl RA.run ?_);go_ret;rw[HHD.o];exact⟨_,rfl,yz.o,HB2.o⟩
def foldl_perm {S A:Type}{f:S->A->S}{I:S->Prop}(hI:∀s x,I s->I (f s x)){l₁ l₂:List A}(p:l₁.Perm l₂)(comm:∀x∈l₁,∀y∈l₁,x≠y->∀s,I s->f (f s x) y=f (f s y) x) :
  ∀s,I s->l₁.foldl f s=l₂.foldl f s:=by
 induction p with
 |nil=>intro s _;rfl
 |cons x p ih =>
  intro s hs;exact ih (λa ha b hb=>comm a (adw _ ha) b (adw _ hb)) _ (hI s x hs)
 |swap x y l =>
  intro s hs;simp only[List.foldl_cons];by_cases e:x=y;rw[e];rw[comm y ai x ai (λh=>e h.symm) s hs]
 |trans p q ih1 ih2 =>
  intro s hs;rw[ih1 comm s hs];exact ih2 (λa ha b hb=>comm a (p.symm.subset ha) b (p.symm.subset hb)) s hs
def uu (g:Mg)(k:Int):Bool:=g.there k&&(g.blk k.toNat).l != 0
def Eb (x:gcs.aD):gcs.aD:={x with l:=x.l-1,s:=if x.s=2/\x.l-1=0 then 3 else x.s}
def oH (g:Mg)(k:Int):(g.drop k).2=if uu g k then g.put k.toNat (Eb (g.blk k.toNat)) else g:=by
 unfold Mg.drop uu;generalize g.blk k.toNat=x;cases h1:g.there k;rw[if_pos (ack rfl)];rfl;by_cases h2:x.l=0;rw[if_pos (acm h2),h2];rfl;have h3:(x.l != 0)=true:=by simp[h2]
 rw[if_neg (by simp[h2]),h3];rfl
def Bf (g:Mg)(x:gcs.aD)(h:i≠j):(g.put i x).blk j=g.blk j:=by
 simp only[Mg.blk,Mg.put,aah,List.getElem?_set];rw[if_neg h]
def xI (g:Mg)(x:gcs.aD)(k:Int)(h:0<=k->i≠k.toNat):(g.put i x).there k=g.there k/\(0<=k->(g.put i x).blk k.toNat=g.blk k.toNat):=by
 refine⟨?_,λh0=>Bf g x (h h0)⟩;by_cases h0:0<=k;have:=Bf g x (h h0);unfold Mg.there;rw[this];simp[Mg.put];unfold Mg.there;rw[decide_eq_false h0];rfl
def mJ {g:Mg}{k:Int}(h:uu g k=true):0<=k:=by
 unfold uu at h;simp only[ac8]at h;exact(Fj h.1).1
def Bg (g:Mg){b:Int}(ha:0<=a)(hab:a≠b)(x:gcs.aD):uu (g.put a.toNat x) b=uu g b:=by
 have h:=xI g (i:=a.toNat) x b (λhb=>aa);unfold uu;rw[h.1];by_cases hb:0<=b;rw[h.2 hb];have:g.there b=false:=by unfold Mg.there;rw[decide_eq_false hb];rfl
 rw[this];rfl
def Ec (g:Mg)(a b:Int):((g.drop a).2.drop b).2=((g.drop b).2.drop a).2:=by
 by_cases hab:a=b;rw[hab];have A:=oH g a;have B:=oH g b;cases ha:uu g a;rw[ha,if_neg ai]at A;cases hb:uu g b;rw[hb,if_neg ai]at B;rw[A,B,A];have h1:=Bg g (mJ hb) (λe=>hab e.symm) (Eb (g.blk b.toNat));rw[hb,if_pos rfl]at B;rw[A,B,oH _ a,h1,ha,if_neg ai];have h1:=Bg g (mJ ha) hab (Eb (g.blk a.toNat));rw[ha,if_pos rfl]at A;cases hb:uu g b;rw[hb,if_neg ai]at B;rw[A,B,A,oH _ b,h1,hb,if_neg ai];have h2:=Bg g (mJ hb) (λe=>hab e.symm) (Eb (g.blk b.toNat));have a0:=mJ ha
 have b0:=mJ hb;have e1:=(xI g (i:=a.toNat) (Eb (g.blk a.toNat)) b (λ_=>aa)).2 b0;have e2:=(xI g (i:=b.toNat) (Eb (g.blk b.toNat)) a (λ_=>aa)).2 a0;rw[hb,if_pos rfl]at B;rw[A,B,oH _ b,h1,hb,if_pos rfl,oH _ a,h2,ha,if_pos rfl,e1,e2];simp only[Mg.put];rw[List.set_comm _ _ aa]
def put_comm (h:MP.Ok m){b:Int}(u v:FP.cB)(hab:a≠b):MP.put (MP.put m a u) b v=MP.put (MP.put m b v) a u:=by
 refine MP.ext (MP.iJ (MP.iJ h _ _) _ _) (MP.iJ (MP.iJ h _ _) _ _) λk=>?_
 simp only[MP.get_put];by_cases h1:b=k;rw[if_pos h1,if_neg aa,if_pos h1];rw[if_neg h1];by_cases h2:a=k;rw[if_pos h2,if_pos h2];rw[if_neg h2,if_neg h2,if_neg h1]
def IC (h:MP.Ok m)(a b:Int):MP.del (MP.del m a) b=MP.del (MP.del m b) a:=by
 refine MP.ext (MP.jc (MP.jc h _) _) (MP.jc (MP.jc h _) _) λk=>?_
 rw[MP.dO (MP.jc h _),MP.dO (MP.jc h _),MP.dO h,MP.dO h];by_cases h1:a=k<;>by_cases h2:b=k<;>simp[h1,h2]
structure rH (c:NP.bX)(r b:Int)(s:FP.Sl):Prop where
 lL:s.g.ok c
 same:s.g.aC=r/\s.g.bad=b
 slow:Low s.bD
 kQ:Low s.gone
section
variable{c:NP.bX}{r b:Int}{s:FP.Sl}{x:Int×FP.cB}
def rH.take (h:rH c r b s)(hx:0<=x.1/\x.1<8192):rH c r b (s.take x):=by
 unfold FP.Sl.take;cases MP.get s.bD x.1 with
 |none=>exact⟨h.lL,h.same,h.slow.put hx _,h.kQ.del _⟩
 |some p =>
  have:=sP s.g p.block;exact⟨uQ h.lL _,⟨this.1.trans h.same.1,this.2.trans h.same.2⟩,h.slow.put hx _,h.kQ.del _⟩
def rH.strike (h:rH c r b s)(x:Int×FP.cB):rH c r b (s.strike x):=by
 unfold FP.Sl.strike;have:=sP s.g ((MP.get s.bD x.1).getD default).block;exact⟨uQ h.lL _,⟨this.1.trans h.same.1,this.2.trans h.same.2⟩,h.slow.del _,h.kQ⟩
variable{y:Int×FP.cB}
def OP (h1:MP.Ok s.bD)(h2:MP.Ok s.gone)(hxy:x.1≠y.1):(s.take x).take y=(s.take y).take x:=by
 have e1:MP.get (MP.put s.bD x.1 x.2) y.1=MP.get s.bD y.1:=by rw[MP.get_put,if_neg hxy]
 have e2:MP.get (MP.put s.bD y.1 y.2) x.1=MP.get s.bD x.1:=by rw[MP.get_put,if_neg (λe=>hxy e.symm)]
 simp only[FP.Sl.take,e1,e2,put_comm h1 x.2 y.2 hxy,IC h2 x.1 y.1];cases MP.get s.bD x.1<;>cases MP.get s.bD y.1<;>simp[Ec]
def IE (h1:MP.Ok s.bD)(hxy:x.1≠y.1):(s.strike x).strike y=(s.strike y).strike x:=by
 have e1:MP.get (MP.del s.bD x.1) y.1=MP.get s.bD y.1:=by rw[MP.dO h1,if_neg hxy]
 have e2:MP.get (MP.del s.bD y.1) x.1=MP.get s.bD x.1:=by rw[MP.dO h1,if_neg (λe=>hxy e.symm)]
 simp only[FP.Sl.strike,e1,e2,IC h1 x.1 y.1,Ec]
def MN (h:MP.Ok m)(hx:x∈m)(hy:y∈m)(e:x≠y):x.1≠y.1:=by
 intro e1;have h1:=MP.dR h hx;have h2:=MP.dR h hy;rw[e1,h2]at h1;injection h1 with h1;exact e (Prod.ext e1 h1.symm)
def Kz {done:Mp FP.cB}(hm:MP.Ok m)(hp:done.Perm m)(h1:MP.Ok s.bD)(h2:MP.Ok s.gone):done.foldl FP.Sl.take s=m.foldl FP.Sl.take s :=
 foldl_perm (I:=λs=>MP.Ok s.bD/\MP.Ok s.gone) (λ_ _ h=>⟨MP.iJ h.1 _ _,MP.jc h.2 _⟩) hp (λ_ hx _ hy e _ hs=>OP hs.1 hs.2 (MN hm (hp.subset hx) (hp.subset hy) e)) s ⟨h1,h2⟩
def Fz {done:Mp FP.cB}(hm:MP.Ok m)(hp:done.Perm m)(h1:MP.Ok s.bD):done.foldl FP.Sl.strike s=m.foldl FP.Sl.strike s :=
 foldl_perm (I:=λs=>MP.Ok s.bD) (λ_ _ h=>MP.jc h _) hp (λ_ hx _ hy e _ hs=>IE hs (MN hm (hp.subset hx) (hp.subset hy) e)) s h1
def rH.takes (hm:∀x∈m,0<=x.1/\x.1<8192)(h:rH c r b s):rH c r b (m.foldl FP.Sl.take s):=by
 induction m generalizing s with
 |nil=>exact h
 |cons x m ih=>exact ih (λy hy=>hm y (adw _ hy)) (h.take (hm x ai))
def rH.strikes (m:Mp FP.cB)(h:rH c r b s):rH c r b (m.foldl FP.Sl.strike s):=by
 induction m generalizing s with
 |nil=>exact h
 |cons x m ih=>exact ih (h.strike x)
def WW (m:Mp FP.cB)(s:FP.Sl):(m.foldl FP.Sl.strike s).gone=s.gone:=by
 induction m generalizing s with
 |nil=>rfl
 |cons x m ih=>exact ih _
end
def rJ (f1:FP.Ft)(p:FP.cB):FP.Sl:=(MP.put f1.now 0 p).foldl FP.Sl.take ⟨f1.g,f1.bD,f1.gone⟩
def sQ (s1:FP.Sl):FP.Sl:=s1.gone.foldl FP.Sl.strike s1
def IG (f1:FP.Ft)(p:FP.cB)(text:List Nat):FP.Ft :=
 {f1 with g:=(sQ (rJ f1 p)).g,bD:=(sQ (rJ f1 p)).bD,now:=[],gone:=[],aM:=f1.aM+1,text:=text}
def o7 {aC bad:Int}{text:List Nat}(ht:∀y∈text,y<256):∀y∈FP.jJ aC bad text,y<256:=by
 intro y hy;unfold FP.jJ at hy;simp only[List.cons_append,List.nil_append,List.mem_cons]at hy;rcases hy with rfl|rfl|rfl|rfl|rfl|rfl|rfl|rfl|hy;all_goals first|omega|exact ht y hy
structure zO (aA:Nat)(w:acL)(f:Nat)(X:dm)(r b:Nat)(left:Mp FP.cB)(wr:acL)(Y:dm):Prop where
 goes:aQ aA w f X wr Y
 it:gL wr r b .u32 dz left
 which:b=Y.bn\/b=Y.bg
 rf:¬Y.foot f r
 iT:w.heap.size<=r/\aA<=w.heap.size
section
variable{wr:acL}{r b:Nat}{Y:dm}{left:Mp FP.cB}{m:Mp FP.cB}
def S9 {α:Type}{K:IntKind}{enc:α->acK}{l:Mp α}(h:gL wr r b K enc l):∀t cur,¬aD wr r t cur:=by
 intro t cur hb;obtain⟨_,_,_,_,_,_,h2,_⟩:=h;unfold aD at hb;rw[hb]at h2;cases h2
def zO.old (h:zO aA w f X r b left wr Y)(q:acN wr.heap.size wr w'):zO aA w f X r b left w' Y:=⟨h.goes.old q,h.it.old q,h.which,h.rf,h.iT⟩
def zO.adx (h:zO aA w f X r b left wr Y):b≠Y.bs:=by
 rcases h.which with e|e;rw[e];exact h.goes.at_.ne.1.symm;rw[e];exact h.goes.at_.ne.2.1.symm
def zO.begin (h:aQ aA w f X wr Y)(hb:b=Y.bn\/b=Y.bg)(hbase:aA<=w.heap.size)(hm:bz wr b .u32 dz m):∃w',xk 149 (.map (some b)) (.pointer (some ⟨wr.heap.size,0,none⟩)) wr w'/\zO aA w f X wr.heap.size b m w' Y:=by
 obtain⟨w',h1,h2,h3,h4⟩:=hm.range (P:=prog) underlying149;exact⟨w',⟨h1⟩,h.old h3,h2,hb,λe=>by have:=h.at_.lt _ e;omega,h.size,hbase⟩
def zO.next (h:zO aA w f X r b left wr Y):(left=[]/\kZ (adj (some ⟨r,0,none⟩)) (adg #[acg false]) wr wr) \/
  ∃(k:Int) (pb pp:Int) (w':acL),(k,(⟨pb,pp⟩:FP.cB))∈left/\kZ (adj (some ⟨r,0,none⟩)) (adg #[acg true,.int .u32 k,adA #[vi pb,vi pp]]) wr w'/\zO aA w f X r b (MP.del left k) w' Y/\(MP.del left k).length<left.length/\left.Perm ((k,⟨pb,pp⟩)::MP.del left k) /\
   (Instr.entry (adj (some ⟨r,0,none⟩))).run prog w'=.ok (adg #[.int .u32 k,adA #[vi pb,vi pp]]) w':=by
 rcases h.it.next (P:=prog) with⟨h1,h2⟩|⟨⟨k,pb,pp⟩,w',h1,h2,h3,h4,h5,h6⟩;exact ack ⟨h1,⟨h2⟩⟩;have hok:MP.Ok left:=by obtain⟨_,_,_,_,_,_,_,_,_,_,_,_,hok⟩:=h.it;exact hok
 have hg:=MP.dR hok h1;refine acm ⟨k,pb,pp,w',h1,⟨h2⟩,⟨?_,h3,h.which,h.rf,h.iT⟩,by have:=MP.o8 hg;dsimp only at this ⊢;omega,MP.fO hg,h6⟩;have hF:bP aA w' f Y:=h.goes.at_.aJ h4 (λn e=>by subst e;exact⟨Nat.le_trans h.iT.2 h.iT.1,λt cur hb=>(S9 h.it t cur hb).elim⟩) (λn e e2=>h.rf (e2▸e));exact h.goes.iT ⟨h4.os,h4.tape,h4.output,h4.size,λi hi=>h4.block i (Nat.lt_of_lt_of_le hi h.goes.size) (by have:=h.iT.1;omega)⟩ hF
def zO.drop (h:zO aA w f X r b left wr Y){g':Mg}(q:bJ aA wr Y.m Y.G Y.M w' g' Y.M):zO aA w f X r b left w' {Y with G:=Y.G.lay g'}:=by
 have hb:¬foot1 Y.m Y.G Y.M b:=by
  rcases h.which with e|e;rw[e];exact(h.goes.at_.gY h.goes.at_.now).2.2;rw[e];exact(h.goes.at_.gY h.goes.at_.gone).2.2
 have hr:¬foot1 Y.m Y.G Y.M r:=λe=>h.rf (acm (acm (acm (acm (acm e)))))
 have hgo:=h.goes.at_.goes q;refine⟨h.goes.trans hgo,h.it.aJ q.aJ hb hr,h.which,λe=>?_,h.iT⟩;rcases hgo.foot _ e with e|e;exact h.rf e;have:=h.it.lt.1;omega
def zO.bD (h:zO aA w f X r b left wr Y){S':Mp FP.cB}(g:wr.grownBy w' (some Y.bs))(hm:bz w' Y.bs .u32 dz S'):zO aA w f X r b left w' {Y with S:=S'}:=by
 have hl:=h.it.lt;refine⟨h.goes.trans (h.goes.at_.MK g hm),h.it.of_heap (g.block b hl.2 (λe=>?_)) (g.block r hl.1 (λe=>?_)),h.which,h.rf,h.iT⟩;injection e with e;exact h.adx e;injection e with e;exact h.rf (acm (ack e))
def zO.gone (h:zO aA w f X r b left wr Y){D':Mp FP.cB}(hb:b=Y.bn)(g:wr.grownBy w' (some Y.bg))(hm:bz w' Y.bg .u32 dz D'):zO aA w f X r b left w' {Y with D:=D'}:=by
 have hl:=h.it.lt;refine⟨h.goes.trans (h.goes.at_.zM g hm),h.it.of_heap (g.block b hl.2 (λe=>?_)) (g.block r hl.1 (λe=>?_)),h.which,h.rf,h.iT⟩;injection e with e;rw[hb]at e;exact h.goes.at_.ne.2.2 e;injection e with e;exact h.rf (acm (acm (acm (ack e))))
def Bh (h:bP aA w f X)(hx:X.Fit)(k:Int):ac4 prog 109 #[ptr X.m,vi k] w λe w'=>e=ab4 (vi (X.G.view.drop k).1)/\bJ aA w X.m X.G X.M w' (X.G.view.drop k).2 X.M :=
 mgr.rq h.held hx.lL hx.bI.2.2.2.1 k
def bJ.cells {m:Nat}{G:iL}{M:dA}{g':Mg}(q:bJ aA w m G M w' g' M){p:Addr}{v:acK}(hc:w.cell? p=some v)(hn:¬foot1 m G M p.block):w'.cell? p=some v:=q.aJ.cell hc hn
def Fit.sl {F:FP.Ft}(h:Fit F){s:FP.Sl}(k:rH F.c F.g.aC F.g.bad s):Fit {F with g:=s.g,bD:=s.bD,gone:=s.gone} :=
 ⟨h.good,k.lL,h.res,by dsimp only;rw[k.same.1,k.same.2];exact h.qE,k.slow,h.oG,k.kQ,h.rz,h.lC⟩
end
def aQ.fill {Y:dm}(h:aQ aA w f X W Y)(hg:w.heap.size<=g)(hb:aD W g 165 #[u0,u1])(hn:¬Y.foot f g)(hbase:aA<=g)(u v:acK) :
  aD ((W.setCell ⟨g,0,none⟩ u).setCell ⟨g,1,none⟩ v) g 165 #[u,v]/\aQ aA w f X ((W.setCell ⟨g,0,none⟩ u).setCell ⟨g,1,none⟩ v) Y :=
 ⟨(hb.bB 0 u).bB 1 v,h.iT (nH u v h.size hg) (h.at_.aJ (lY W g 0 1 u v) (λn e=>by subst e;exact Loose.blk hbase hb) (λn e e2=>hn (e2▸e)))⟩
def aaJ (x y:Int)(w:acL):(Instr.field 165 (adA #[vi x,vi y]) 0).run prog w=.ok (vi x) w:=ah
def aQ.fresh {wr:acL}{Z:dm}(h:aQ aA w f X wr Z)(hbase:aA<=wr.heap.size) :
  aQ aA w f X ((((wr.alloc (.map #[] 0)).alloc (.map #[] 0)).setCell ⟨f,6,none⟩ (.map (some wr.heap.size))).setCell ⟨f,7,none⟩ (.map (some (wr.heap.size+1)))) {Z with bn:=wr.heap.size,N:=[],bg:=wr.heap.size+1,D:=[]}:=by
 have hb:acN wr.heap.size wr ((wr.alloc (.map #[] 0)).alloc (.map #[] 0)):=ax.alloc ai _;have q2:=lY ((wr.alloc (.map #[] 0)).alloc (.map #[] 0)) f 6 7 (.map (some wr.heap.size)) (.map (some (wr.heap.size+1)));have q:aP (λn=>n=f) wr ((((wr.alloc (.map #[] 0)).alloc (.map #[] 0)).setCell ⟨f,6,none⟩ (.map (some wr.heap.size))).setCell ⟨f,7,none⟩ (.map (some (wr.heap.size+1)))) :=
  (aP.of_below (F:=λn=>n=f) hb).trans q2 (λ_ _ e=>e)
 have hlt:=h.at_.obj.lt;have m1:bz ((wr.alloc (.map #[] 0)).alloc (.map #[] 0)) wr.heap.size .u32 dz []:=(bz.made wr .u32 dz).alloc _;have m2:bz ((wr.alloc (.map #[] 0)).alloc (.map #[] 0)) (wr.heap.size+1) .u32 dz []:=by
  have:=bz.made (wr.alloc (.map #[] 0)) .u32 dz;simpa using this
 have hl:∀n,n=f->Loose aA wr n:=λn e=>h.at_.loose n (ack e)
 refine h.trans (h.at_.fields q (((h.at_.obj.old hb).bB 6 _).bB 7 _) ⟨rfl,rfl,rfl⟩ ⟨h.at_.text.fD q hl,h.at_.lC⟩ ⟨rfl,rfl⟩ ⟨m1.aJ q2 (λe=>?_),acm aj⟩ ⟨m2.aJ q2 (λe=>?_),acm (by dsimp only;omega)⟩ ⟨rfl,rfl,rfl⟩ (by dsimp only;omega) hbase);omega;omega
variable{k:Nat}{M:dA}
def vW (c:NP.bX):∀n,0<=FP.badTo c n/\FP.badTo c n<=n
 |0=>⟨Int.le_refl _,Int.le_refl _⟩
 |n+1=>by
  have:=vW c n
  unfold FP.badTo
  split<;>constructor<;>omega
def uw (h:aT aA w k M)(hok:M.view.ok):ac4 prog 84 #[ptr k] w λe w'=>e=ab4 (vi (FP.gX M.view))/\acN w.heap.size w w':=by
 have H:=az h;have HL:=az (pE hok);have hB:M.B<=128:=by
  have:NP.bH M.B M.P M.S=true:=hok.right;unfold NP.bH at this;simp only[ac8,decide_eq_true_eq]at this;omega
 have HV:Hid (FP.gX M.view=FP.badTo M.view M.B):=az rfl;clear h hok;have hf0:=aaG M.B M.P M.S;go_in;go_wp2_with fail;refine(iZ H.o).mono ?_;rintro e w1 ⟨rfl,hb1⟩;have HB1:=az hb1;clear hb1;go_wp2_with fail;go_loopw [3,8] (λn i wr=>∃j:Nat,j<=M.B/\i=vi j/\n=vi (FP.badTo M.view j)/\acN w.heap.size w wr) (λ_ i _=>M.B-(intOf i).toNat)
 case atStart=>exact⟨0,Nat.zero_le _,rfl,rfl,HB1.o⟩
 case round =>
  obtain⟨j,hj,rfl,rfl,hb⟩:=hrel;have hle:=vW M.view j;have HST:Hid (FP.badTo M.view (j+1)=FP.badTo M.view j+(if NP.qO M.view j then 1 else 0)):=az rfl;by_cases hlt:j<M.B
  ·have HBM:=az (AL M j HL.o);have HB2:=az hb;generalize FP.badTo M.view j=n0 at*;generalize NP.qO M.view j=q at*;go_wp2_with fail;refine(EX (H.o.old HB2.o) j).mono ?_;rintro e w' ⟨rfl,rfl⟩;rw[HBM.o];cases q;all_goals
    go_wp2;go_roundw
    case rel=>exact⟨j+1,aa,by go_num,by rw[HST.o];simp,HB2.o⟩
    case measure=>simp[intOf];omega
  go_wp2;go_ret;obtain rfl:j=M.B:=aa;exact⟨bS HV.o.symm,hb⟩
end ft
namespace FP
open mgr
def z56:List Nat:=List.replicate 56 0
def dummy:Ft:=⟨NP.blank 8 4 64,⟨[],0,0,0,false⟩,0,0,[],[],[],[],0,0,[],false⟩
end FP
namespace ft
open RowKit mgr
abbrev encI (n:Int):acK:=vi n
def Ta (w:acL):(zeroValue 3).run prog w=.ok (vi 0) w:=ah
def mK (w:acL)(n:Nat):dx aA (w.alloc (ach (madeCells #[vb 0] n) 5)) (some ⟨w.heap.size,0,none⟩) (List.replicate n 0):=by
 refine⟨⟨λx hx=>by rw[List.eq_of_mem_replicate hx];decide,acm ⟨w.heap.size,0,rfl,λi hi=>?_⟩⟩,acm ⟨w.heap.size,0,rfl,Safe.byte (aD.new w _ _)⟩⟩;rw[abP]at hi;rw[(aD.new w _ _).cell,Nat.zero_add,<-Array.getElem?_toList,toList_madeCells_one,List.getElem?_replicate,if_pos hi,aah,List.getElem?_replicate,if_pos hi];rfl
end ft
namespace pl
open RowKit mgr ft
structure Bi where
 f:Nat
 T:Int
 F:Int
 P:Int
 I:Int
 sz:Int
 bu:Nat
 bd:Nat
 U:Mp Int
 D:Mp acK
abbrev Bi.cs (Y:Bi):Array acK:=#[ptr Y.f,vi Y.T,vi Y.F,vi Y.P,vi Y.I,vi Y.sz,.map (some Y.bu),.map (some Y.bd)]
structure fE (w:acL)(q:Nat)(Y:Bi):Prop where
 obj:aD w q 96 Y.cs
 used:bz w Y.bu .i64 encI Y.U
 iI:bz w Y.bd .i64 (λv:acK=>v) Y.D
 ne:Y.bu≠Y.bd
variable{F:Nat->Prop}{w w':acL}{q:Nat}{Y:Bi}
def Bi.foot (Y:Bi)(q n:Nat):Prop:=n=q\/n=Y.bu\/n=Y.bd
def fE.aJ (h:fE w q Y)(g:aP F w w')(hn:∀n,Y.foot q n->¬F n):fE w' q Y :=
 ⟨h.obj.aJ g (hn _ (ack rfl)),h.used.aJ g (hn _ (acm (ack rfl))),h.iI.aJ g (hn _ (acm (acm rfl))),h.ne⟩
def fE.old (h:fE w q Y)(g:acN w.heap.size w w'):fE w' q Y:=h.aJ (F:=λ_=>False) (aP.of_below g) (λ_ _ e=>e)
def fE.lt (h:fE w q Y):∀n,Y.foot q n->n<w.heap.size:=by
 intro n e;rcases e with e|e|e;rw[e];exact h.obj.lt;rw[e];exact h.used.lt;rw[e];exact h.iI.lt
def fE.ahn (h:fE w q Y)(n m:Int):∃w',ER 93 (.map (some Y.bu)) (vi n) (vi m) w w'/\fE w' q {Y with U:=MP.put Y.U n m}/\w.grownBy w' (some Y.bu):=by
 obtain⟨w',h1,h2,h3⟩:=h.used.update (P:=prog) underlying93 underlying3 n m;have c:aP (λk=>k=Y.bu) w w':=(aP.refl _ _).grown h3 (λk e=>by cases e;exact .inl rfl);exact⟨w',⟨h1⟩,⟨h.obj.aJ c (λe=>h.used.dM h.obj e.symm),h2,h.iI.aJ c (λe=>h.ne e.symm),h.ne⟩,h3⟩
def fE.ady (h:fE w q Y)(n:Int)(v:acK):∃w',ER 94 (.map (some Y.bd)) (vi n) v w w'/\fE w' q {Y with D:=MP.put Y.D n v}/\w.grownBy w' (some Y.bd):=by
 obtain⟨w',h1,h2,h3⟩:=h.iI.update (P:=prog) underlying94 underlying3 n v;have c:aP (λk=>k=Y.bd) w w':=(aP.refl _ _).grown h3 (λk e=>by cases e;exact .inl rfl);exact⟨w',⟨h1⟩,⟨h.obj.aJ c (λe=>h.iI.dM h.obj e.symm),h.used.aJ c h.ne,h2,h.ne⟩,h3⟩
def fE.aho (h:fE w q Y)(n:Int):∃w',J7 93 3 (.map (some Y.bu)) (vi n) w w'/\fE w' q {Y with U:=MP.del Y.U n}/\w.grownBy w' (some Y.bu):=by
 obtain⟨w',h1,h2,h3⟩:=h.used.delete (P:=prog) underlying93 underlying3 n;have c:aP (λk=>k=Y.bu) w w':=(aP.refl _ _).grown h3 (λk e=>by cases e;exact .inl rfl);exact⟨w',⟨h1⟩,⟨h.obj.aJ c (λe=>h.used.dM h.obj e.symm),h2,h.iI.aJ c (λe=>h.ne e.symm),h.ne⟩,h3⟩
def fE.ahp (h:fE w q Y)(n:Int):∃w',J7 94 3 (.map (some Y.bd)) (vi n) w w'/\fE w' q {Y with D:=MP.del Y.D n}/\w.grownBy w' (some Y.bd):=by
 obtain⟨w',h1,h2,h3⟩:=h.iI.delete (P:=prog) underlying94 underlying3 n;have c:aP (λk=>k=Y.bd) w w':=(aP.refl _ _).grown h3 (λk e=>by cases e;exact .inl rfl);exact⟨w',⟨h1⟩,⟨h.obj.aJ c (λe=>h.iI.dM h.obj e.symm),h.used.aJ c h.ne,h2,h.ne⟩,h3⟩
def Bj (w:acL):(zeroValue 23).run prog w=.ok (aco none 0 0) w:=ah
def fE.adz (h:fE w q Y)(n:Int):(abw 93 (.map (some Y.bu)) (vi n) true).run prog w=.ok (.tuple #[((MP.get Y.U n).map encI).getD (vi 0),.bool (MP.has Y.U n)]) w :=
 h.used.sF underlying93 underlying3 (Ta w) n
def fE.Zf (h:fE w q Y)(n:Int):(abw 94 (.map (some Y.bd)) (vi n) true).run prog w=.ok (.tuple #[((MP.get Y.D n).map λv=>v).getD (.slice none 0 0),.bool (MP.has Y.D n)]) w :=
 h.iI.sF underlying94 underlying3 (Bj w) n
def Bi.given (Y:Bi)(n:Int):Bool:=decide (Y.F<=n)&&decide (n-Y.F<Y.P)
def Bi.there (Y:Bi)(n:Int):Bool:=(decide (1<=n)&&decide (n<=Y.T))||MP.has Y.U n
def Ed (h:fE w q Y)(n:Int)(hb: -1000000<=n/\n<=1000000/\ -1000000<=Y.F/\Y.F<=1000000):ac4 prog 59 #[ptr q,vi n] w λe w'=>e=ab4 (acg (Y.given n))/\acN w.heap.size w w':=by
 have e2:w.cell? ⟨q,2,none⟩=some (vi Y.F):=h.obj.cell 2;have e3:w.cell? ⟨q,3,none⟩=some (vi Y.P):=h.obj.cell 3;have HG:Hid (Y.given n=(decide (Y.F<=n)&&decide (n-Y.F<Y.P))):=az rfl;have w1:adk.wrap (n-Y.F)=n-Y.F:=adl _ aa;clear h hb;generalize Y.given n=gv at*;have e2:=Sub.cell e2;have e3:=Sub.cell e3;go_in;by_cases hF:Y.F<=n
 ·go_upto_region 1 with fail;refine aZ ah ah ?_;repeat (go_big_quiet_step (fail))
  refine adE ?_;rintro _ ⟨nq,rfl⟩;have HB:=az nq.below;go_wp2;go_ret;exact⟨aU (by rw[HG.o];simp[hF]),HB.o⟩
 go_upto_region 1 with fail;refine aZ ah ah ?_;repeat (go_big_quiet_step (fail))
 refine adE ?_;rintro _ ⟨nq,rfl⟩;have HB:=az nq.below;go_wp2;go_ret;exact⟨aU (by rw[HG.o];simp;intros;omega),HB.o⟩
def dP (h:fE w q Y)(n:Int):ac4 prog 60 #[ptr q,vi n] w λe w'=>e=ab4 (acg (Y.there n))/\w'=w:=by
 have e1:w.cell? ⟨q,1,none⟩=some (vi Y.T):=h.obj.cell 1;have e6:w.cell? ⟨q,6,none⟩=some (.map (some Y.bu)):=h.obj.cell 6;have L:=h.adz n;have HG:Hid (Y.there n=((decide (1<=n)&&decide (n<=Y.T))||MP.has Y.U n)):=az rfl;clear h;generalize Y.there n=gv at*;go_in;by_cases h1:1<=n
 ·by_cases h2:n<=Y.T
  ·go_wp2;go_ret;exact⟨aU (by rw[HG.o];simp[h1,h2]),rfl⟩
  go_wp2;go_ret;exact⟨aU (by rw[HG.o];simp;intros;omega),rfl⟩
 go_wp2;go_ret;exact⟨aU (by rw[HG.o];simp;intros;omega),rfl⟩
def cu (h:fE w q Y)(n:Int):ac4 prog 62 #[ptr q,vi n] w λe w'=>e=ab4 (vi (if Y.there n then 0 else 1))/\w'=w:=by
 have H:=az (dP h n);clear h;generalize Y.there n=b at*;go_in;go_wp2_with fail;refine H.o.mono ?_;rintro e w' ⟨rfl,rfl⟩;cases b
 ·go_wp2;go_ret;exact⟨rfl,rfl⟩
 go_wp2;go_ret;exact⟨rfl,rfl⟩
def fP (h:fE w q Y)(n:Int)(hn:Y.P-Y.U.length=n)(hb:0<=Y.P/\Y.P<=1000000/\Y.U.length<=1000000):ac4 prog 21 #[ptr q] w λe w'=>e=.returned (vi n)/\acN w.heap.size w w':=by
 have e3:w.cell? ⟨q,3,none⟩=some (vi Y.P):=h.obj.cell 3;have e6:w.cell? ⟨q,6,none⟩=some (.map (some Y.bu)):=h.obj.cell 6;have l:∀n:Sub w,(Builtin.len_ #[93] 3 #[.map (some Y.bu)]).run prog n.w=.ok (goInt Y.U.length) n.w:=λn=>(h.used.old n.below).len underlying93 _;have w1:adk.wrap (Y.P-Y.U.length)=n:=by rw[hn];exact adl _ aa
 clear h hn hb;have e3:=Sub.cell e3;have e6:=Sub.cell e6;go_in;go_upto_region 3 with fail;refine aZ ah ah ?_;repeat (go_big_quiet_step (fail))
 refine adE ?_;rintro _ ⟨nq,rfl⟩;have HB:=az nq.below;go_wp2;go_ret;exact⟨rfl,HB.o⟩
def mG (h:fE w q Y)(n:Int)(hb: -1000000<=n/\n<=1000000/\ -1000000<=Y.F/\Y.F<=1000000)(hg:Y.given n=true)(ht:Y.there n=true):ac4 prog 48 #[ptr q,vi n] w λe w' =>
  e=ab4 (vi 0)/\fE w' q {Y with U:=MP.del Y.U n,D:=MP.del Y.D n}/\aP (λn=>n=Y.bu\/n=Y.bd) w w':=by
 have H:=az h;have HG:=az (Ed h n hb);rw[hg]at HG;have HA:=az (cu h n);rw[ht]at HA;clear h hg ht hb;go_in;go_wp2_with fail;refine HA.o.mono ?_;rintro e w' ⟨rfl,rfl⟩;go_wp2_with fail;refine HG.o.mono ?_;rintro e w1 ⟨rfl,hb1⟩;have HB1:=az hb1;have H1:=az (H.o.old hb1);clear hb1;obtain⟨w2,hu,h2,hg2⟩:=H1.o.aho n;have HU:=az hu;have H2:=az h2;have JQ:Hid (aP (λn=>n=Y.bu\/n=Y.bd) w' w2):=az ((aP.of_below HB1.o).grown hg2 (λk e=>by cases e;exact ack (ack rfl)));have e6:w1.cell? ⟨q,6,none⟩=some (.map (some Y.bu)):=H1.o.obj.cell 6;clear hu h2 hg2;obtain⟨w3,hu,h3,hg3⟩:=H2.o.ahp n
 have II:=az hu;have H3:=az h3;have Ij:Hid (aP (λn=>n=Y.bu\/n=Y.bd) w' w3):=az (JQ.o.grown hg3 (λk e=>by cases e;exact ack (acm rfl)));have e7:w2.cell? ⟨q,7,none⟩=some (.map (some Y.bd)):=H2.o.obj.cell 7;clear hu h3 hg3;go_wp2_with (at_delete;first|(refine eu rfl (.tmp 19) (.tmp 20) rfl rfl rfl (HU.o.run _) ?_)|(refine eu rfl (.tmp 24) (.tmp 25) rfl rfl rfl (II.o.run _) ?_));go_ret;exact⟨rfl,H3.o,Ij.o⟩
end pl
end Go.Proofs.YtllmbcigmimgoaaGreat
