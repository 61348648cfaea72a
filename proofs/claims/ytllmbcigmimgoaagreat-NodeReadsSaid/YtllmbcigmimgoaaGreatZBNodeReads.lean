/-
  NodeReads: what was written is read; what was not, and stands below Size, is 0. No conditions.
-/
import Derived.Test.YtllmbcigmimgoaaGreatZB17
set_option maxRecDepth 100000
set_option maxHeartbeats 20000000
set_option linter.all false
namespace Go.Proofs.YtllmbcigmimgoaaGreat
open _root_.Go.Proofs.Tryz
open _root_.Go.Value renaming slice->aco
namespace nodeReads
open ChangeShapes WideShapes ChangeAt RowKit Deep
open mgr ft ino po df lw
theorem walk (n:Int)(y:qB eQ)(aF:Int)(z:qB Nat)(w:World)(hy:fe w.heap.size w y.a y.l)(hr:dx w.heap.size w z.a z.l)(hc:z.l.length<=z.c)(hm:z.c<=maxLen)(hl:z.l.length<=140737488355328):Calls prog 3 #[vi n,y.v,vi aF,z.v] w λe w'=>e=.returned (.bool true)/\Below w.heap.size w w':=by
 obtain⟨ya,l,yc⟩:=y;obtain⟨za,b,zc⟩:=z;have HL:=az hy;have HR:=az hr;dsimp only at HL HR hc;have HC:=az hc;change Calls prog 3 #[vi n,aco ya l.length yc,vi aF,aco za b.length zc] w _;clear hy hr hc hm hl;go_in;go_wp2_with fail;refine(ru yc HL.o).mono ?_;rintro e1 w1 ⟨t,rfl,rfl,hs⟩;have Wh:Hid (∀W,Below w1.heap.size w1 W->Calls prog 10 #[] W λe w'=>e=.returned (.bool true)/\Below w1.heap.size w1 w'):=az (λW hb=>(jB W).mono λe w' h=>⟨h.1,hb.trans (h.2.mono hb.size)⟩);by_cases hlb:t=false/\b.length<=1024
 ·obtain⟨rfl,hlb⟩:=hlb;have HN:=az (hs rfl);have Ig:=az hlb;have c1:¬(1024:Int)<(b.length:Int):=aa;clear hs hlb;go_wp2_with fail;refine(vo w1 n ya l yc w1 ak HL.o HN.o).mono ?_;rintro e2 w2 ⟨q,K,p,is,Fs,D,a,e,rfl,hon⟩;have zJ:=az hon;have H1:=az (fu q is D);clear hon c1 HL;go_upto_region 4 with (refine fU (C:=aO q is D) rfl rfl (.tmp 9) (.tmp 31) rfl rfl rfl rfl H1.o ?_;intro w4 hb4 hl4;have nJ:=az hb4;have uf:=az hl4;clear hb4 hl4);obtain⟨kd,ln,sz,d0,d1,d2,d3,d4,d5,sg,db,hik⟩:∃kd ln sz d0 d1 d2 d3 d4 d5 sg db,is 0=⟨kd,ln,sz,[d0,d1,d2,d3,d4,d5],sg,db⟩:=by
   have h6:=zJ.o.run.fl.fam.six 0;generalize is 0=i at*;obtain⟨kd,ln,sz,dl,sg,db⟩:=i;obtain⟨d0,d1,d2,d3,d4,d5,rfl⟩:=six (l:=dl) h6;exact⟨kd,ln,sz,d0,d1,d2,d3,d4,d5,sg,db,rfl⟩
  have HIK:=az hik;have iH:Hid (¬KQ K q w2.heap.size/\w1.heap.size<=w2.heap.size):=az ⟨λe=>by have:=zJ.o.run.ZW _ e;omega,zJ.o.dW.size⟩;have pI:Hid (Below w1.heap.size w1 w4):=az (zJ.o.dW.trans (uf.o.mono zJ.o.dW.size));have lF:=az (zJ.o.run.old uf.o);have D6:Hid (Fl p 3 is Fs):=az zJ.o.run.fl;have hi:∀W',aD W' w2.heap.size 37 (aI (aO q is D))->(W'.cell? ⟨w2.heap.size,0,none⟩=some (ptr q)/\W'.cell? ⟨w2.heap.size,1,none⟩=some (vi kd)/\W'.cell? ⟨w2.heap.size,2,none⟩=some (vi ln)/\W'.cell? ⟨w2.heap.size,3,none⟩=some (vi sz)/\W'.cell? ⟨w2.heap.size,4,none⟩=some (vi d0)/\W'.cell? ⟨w2.heap.size,5,none⟩=some (vi d1)/\W'.cell? ⟨w2.heap.size,6,none⟩=some (vi d2)/\W'.cell? ⟨w2.heap.size,7,none⟩=some (vi d3)/\W'.cell? ⟨w2.heap.size,8,none⟩=some (vi d4)/\W'.cell? ⟨w2.heap.size,9,none⟩=some (vi d5)/\W'.cell? ⟨w2.heap.size,10,none⟩=some (vi sg)/\W'.cell? ⟨w2.heap.size,11,none⟩=some (vi db)):=λW' hb=>by
   have hc:=λj hj=>GD hb 0 aa j hj
   rw[hik]at hc;exact⟨(gu hb).1 0 aa,hc 0 aa,hc 1 aa,hc 2 aa,hc 3 aa,hc 4 aa,hc 5 aa,hc 6 aa,hc 7 aa,hc 8 aa,hc 9 aa,hc 10 aa⟩
  generalize w2.heap.size=x at*;have jS:Hid (sz=(Fs 0).size):=az (by rw[D6.o.size,HIK.o]);clear hik zJ uf H1;have HW:Hid (∀V,Below w4.heap.size w4 V->Calls prog 12 #[ptr q,.agg #[vi kd,vi ln,vi sz,vi d0,vi d1,vi d2,vi d3,vi d4,vi d5,vi sg,vi db],vi aF,aco za b.length zc] V (kW w1.heap.size V q K p is Fs 0 (kV (Fs 0) aF b p.aK))):=az (λV hb=>by
   have h1:=p9 (lF.o.old hb) 0 aa aF za b zc ((HR.o.old pI.o).old hb) HC.o
   rw[HIK.o]at h1
   exact h1)
  obtain⟨i0,i1,i2,i3,i4,i5,i6,i7,i8,i9,i10,i11⟩:=hi w4 nJ.o;go_wp2_with fail;refine(HW.o _ (Below.refl _ w4)).mono ?_;obtain⟨out,hout⟩:∃out,out=kV (Fs 0) aF b p.aK:=⟨_,rfl⟩;rw[<-hout];have Mf:=az hout;rintro e5 w5 ⟨i',K',p',rfl,hgo,hcs⟩;have h6:=oZ hcs;obtain⟨k',l',s',Qw,g',b'⟩:=i';obtain⟨e0,e1,e2,e3,e4,e5,rfl⟩:=six (l:=Qw) h6;simp only[dS,j4];have HM:=az (afH nJ.o iH.o.1 pI.o lF.o.pq hgo (iV k' l' s' e0 e1 e2 e3 e4 e5 g' b'));have SF:=az hcs;clear hgo;clear hout HW i0 i1 i2 i3 i4 i5 i6 i7 i8 i9 i10 i11 lF hcs nJ h6;go_upto_region 8 with fail;change Code.wp _ _ _ _ (w5.alloc (.cells (iV k' l' s' e0 e1 e2 e3 e4 e5 g' b') 29))
  generalize w5.heap.size=g at*;generalize (w5.alloc (.cells (iV k' l' s' e0 e1 e2 e3 e4 e5 g' b') 29))=wc at*;by_cases h0:out.1=0
  ·rw[h0];have HW0:=az (acH (by rw[<-Mf.o];exact h0));obtain⟨o,rfl⟩:∃o:Nat,aF=o:=⟨aF.toNat,by have:=HW0.o.1;omega⟩;obtain⟨-,hfl,⟨-,-,hsz⟩,-⟩:=SF.o.resolve_left (λe=>e.1 h0);have hou:out.2=(Fs 0).put o b:=congrArg Prod.snd (Mf.o.trans HW0.o.2.2.2);rw[hou]at hfl hsz;have ajO:=az hfl;have afJ:Hid (s'=((Fs 0).put o b).size):=az hsz;have Sa:Hid (∀W K,PQ w1.heap.size W q K p'->∀(m n:Int),Calls prog 13 #[ptr q,.agg (iV k' l' s' e0 e1 e2 e3 e4 e5 g' b'),vi m,vi n] W (qc w1.heap.size W q K p' (jV ((Fs 0).put o b) m n).1 (jV ((Fs 0).put o b) m n).2)):=az (λW K hq m n=>afI ajO.o hq m n)
   have zi:Hid (Calls prog 13 #[ptr q,.agg (iV k' l' s' e0 e1 e2 e3 e4 e5 g' b'),vi o,vi b.length] wc (qc w1.heap.size wc q K' p' b 0)):=az (by
    have h:=Sa.o _ _ HM.o.pq o b.length
    rwa[acI (Fs 0) o Ig.o]at h)
   have HZ:Hid (∀x,(Fs 0).size<=x->(Fs 0).b x=0):=az (fl_zero D6.o 0);obtain⟨i0,i1,i2,i3,i4,i5,i6,i7,i8,i9,i10,i11⟩:=hi wc HM.o.run;obtain⟨b0,b1,b2,b3,b4,b5,b6,b7,b8,b9,b10⟩:=nK HM.o.blk;clear h0 hfl hsz hou SF Mf D6;go_wp2_with fail;refine zi.o.mono ?_;rintro e6 w6 ⟨ca,cc,K6,rfl,hrow,hrd⟩;have Qj:=az (HM.o.go hrd);have yz:Hid (o<=67968):=az (by have:=HW0.o.2.2.1;omega);have Dw:=az hrow;clear hrow hrd i0 i1 i2 i3 i4 i5 i6 i7 i8 i9 i10 i11 b0 b1 b2 b3 b4 b5 b6 b7 b8 b9 b10 zi;have lX:Hid (Calls prog 14 #[aco ca b.length cc,aco za b.length zc] w6 λe w'=>e=.returned (.bool true)/\w'=w6):=az (pl.nX ca za b cc zc w6 Dw.o (HR.o.old Qj.o.dW).row)
   have j2:w6.cell? ⟨g,2,none⟩=some (vi s'):=Qj.o.blk.cell 2;have n1:¬(s':Int)<(sz:Int):=by have:=(CQ (Fs 0) o b).1;rw[<-jS.o,<-afJ.o]at this;omega
   clear afJ HC Ig HW0 Dw;by_cases h1:o<=sz
   ·have c1:(o:Int)<=(sz:Int):=aa;clear h1;go_wp2_with (go_at_call 14;refine lX.o.mono ?_;rintro e7 w7 ⟨rfl,rfl⟩);refine(Wh.o _ Qj.o.dW).mono ?_;rintro e6 w6 ⟨rfl,hb6⟩;have uC:=az hb6;clear hb6;go_wp2;go_ret;exact⟨rfl,uC.o⟩
   have c1:¬(o:Int)<=(sz:Int):=aa;by_cases h2:b.length=0
   ·have c2:((b.length:Nat):Int)=0:=aa;clear h1 h2;go_wp2_with (go_at_call 14;refine lX.o.mono ?_;rintro e7 w7 ⟨rfl,rfl⟩);refine(Wh.o _ Qj.o.dW).mono ?_;rintro e6 w6 ⟨rfl,hb6⟩;have uC:=az hb6;clear hb6;go_wp2;go_ret;exact⟨rfl,uC.o⟩
   have c2:¬((b.length:Nat):Int)=0:=aa;have Ar:Hid (b≠[]):=az (λe=>h2 (by rw[e];rfl));have yK:Hid (sz<o):=az aa;clear h2;have r1:IntKind.i64.wrap ((o:Int)-(sz:Int))=((o-sz:Nat):Int):=by have:=yK.o;have:=yz.o;rw[IntWalk.i64_in _ aa];omega
   go_upto_if 90 with (go_at_call 14;refine lX.o.mono ?_;rintro e7 w7 ⟨rfl,rfl⟩);obtain⟨w6,hw6⟩:∃w6,w6=w7:=⟨_,rfl⟩;subst hw6;clear n1 c1 c2 h1;go_cut [16] from 63 to 113 (λv16 wx=>∃m:Nat,v16=vi m/\w6=wx/\Hid (m+sz<=o/\m<=1024))
   case first =>
    by_cases h3:1024<o-sz
    ·have c3:(1024:Int)<((o-sz:Nat):Int):=aa;have qF:=az h3;clear h3;go_wp2;go_meet;have h3:=qF.o;exact⟨1024,rfl,rfl,az ⟨aa,aa⟩⟩
    have c3:¬(1024:Int)<((o-sz:Nat):Int):=aa;have qF:Hid ((o-sz)+sz<=o/\o-sz<=1024):=az (by have:=yK.o;omega);clear h3;go_wp2;go_meet;exact⟨o-sz,rfl,rfl,qF⟩
   case rest =>
   obtain⟨m,rfl,rfl,hm⟩:=hcut;have yC:=az hm.o;have r2:IntKind.i64.wrap ((o:Int)-(m:Int))=(o:Int)-(m:Int):=by have:=yz.o;have:=hm.o;rw[IntWalk.i64_in _ aa]
   have HR1:Hid (Calls prog 13 #[ptr q,.agg (iV k' l' s' e0 e1 e2 e3 e4 e5 g' b'),vi ((o:Int)-(m:Int)),vi m] w6 (qc w1.heap.size w6 q K6 p' (List.replicate m 0) 0)):=az (by
    have h:=Sa.o _ _ Qj.o.pq ((o:Int)-(m:Int)) m
    rwa[YW HZ.o Ar.o (by rw[<-jS.o];exact hm.o.1) hm.o.2]at h)
   obtain⟨i0,i1,i2,i3,i4,i5,i6,i7,i8,i9,i10,i11⟩:=hi w6 Qj.o.run;obtain⟨b0,b1,b2,b3,b4,b5,b6,b7,b8,b9,b10⟩:=nK Qj.o.blk;clear hm r1 j2 lX Sa HZ Ar hi HM;go_wp2_with fail;refine HR1.o.mono ?_;rintro e7 w7 ⟨ga,gc,K7,rfl,aai,afK⟩;have HM7:=az (Qj.o.go afK);have HMK:Hid (∀W,(Instr.makeSlice 23 (.int .i64 (m:Int)) (.int .i64 (m:Int))).run prog W=.ok (aco (some ⟨W.heap.size,0,none⟩) m m) (W.alloc (.cells (madeCells #[vb 0] m) 5))):=az (λW=>gp m (by have:=yC.o;omega) W);have hmk:=HMK.o w7;have mZ:Hid (Calls prog 14 #[aco ga m gc,aco (some ⟨w7.heap.size,0,none⟩) m m] (w7.alloc (.cells (madeCells #[vb 0] m) 5)) λe w'=>e=.returned (.bool true)/\w'=w7.alloc (.cells (madeCells #[vb 0] m) 5)):=az (by
    have h:=pl.nX ga (some ⟨w7.heap.size,0,none⟩) (List.replicate m 0) gc m _ (aai.below ((Below.refl _ w7).alloc aj (.cells (madeCells #[vb 0] m) 5))) (mK (aA:=0) w7 m).row
    rwa[List.length_replicate]at h)
   rw[List.length_replicate];clear aai afK i0 i1 i2 i3 i4 i5 i6 i7 i8 i9 i10 i11 b0 b1 b2 b3 b4 b5 b6 b7 b8 b9 b10 HR1;go_wp2_with (go_at_call 14;refine mZ.o.mono ?_;rintro e8 w8 ⟨rfl,rfl⟩);refine(Wh.o _ (HM7.o.dW.alloc HM7.o.dW.size _)).mono ?_;rintro e9 w9 ⟨rfl,ME⟩;have Y3:=az ME;clear ME;go_wp2;go_ret;exact⟨rfl,Y3.o⟩
  have hk:((out.1:Int) != 0)=true:=bne_iff_ne.2 h0;clear h0;go_wp2_with fail;refine(Wh.o _ HM.o.dW).mono ?_;rintro e6 w6 ⟨rfl,hb6⟩;have uC:=az hb6;clear hb6;go_wp2;go_ret;exact⟨rfl,uC.o⟩
 have HT:Hid (t=true\/(t=false/\(1024:Int)<(b.length:Int))):=az (by
  cases t
  exact .inr ⟨rfl,by have:¬b.length<=1024:=(λh=>hlb ⟨rfl,h⟩);omega⟩
  exact .inl rfl)
 clear hs hlb HL;rcases HT.o with rfl|⟨rfl,c1⟩;all_goals
  go_wp2_with fail;refine(Wh.o _ ak).mono ?_;rintro e6 w6 ⟨rfl,hb6⟩;have uC:=az hb6;clear hb6;go_wp2;go_ret;exact⟨rfl,uC.o⟩
theorem lifted (os:Os)(started:os.Started)(H:Type)(enc:TypeId×Value->H) :
  ReturnsInHanded {} checked os 3 .any (Rows.nodeReadsSpec.pre6 enc prog Tryz.f3 Rows.nodeReadsRow.domain false) (Rows.nodeReadsSpec.post enc prog Tryz.f3 false true false false):=by
 refine returnsInHanded_of_change_sized (C:=checked) own started ah func3
  (ChangeSpec.witness6 (enc:=enc) (C:=checked) false ⟨#[],#[.int .i64 0,.slice none 0 0,.int .i64 0,.slice none 0 0],[]⟩ 8 ah ah ah ah) ?_
 intro W aA args ds gs before hval0 hW hcnd hwt _;have hval:∀(j:Nat) t v,Tryz.f3.params[j]?=some t->args[j]?=some v->Value.okWide prog W .any aA t v:=hval0;have hW':=hW;obtain⟨p,q,JY,hV,rfl,hfz,hnd⟩:=hW;have hA:DataW.TrodAll enc prog W 0 (λ_=>true) true Tryz.f3.params.toList args.toList ds p:=JY;rw[params3]at hA hval hwt;obtain⟨v0,vs0,d0,ds0,p0,q0,hargs,rfl,rfl,h0,r0⟩:=trodAll_cons hA;obtain⟨v1,vs1,d1,ds1,p1,q1,rfl,rfl,rfl,h1,r1⟩:=trodAll_cons r0;obtain⟨v2,vs2,d2,ds2,p2,q2,rfl,rfl,rfl,h2,r2⟩:=trodAll_cons r1;obtain⟨v3,vs3,d3,ds3,p3,q3,rfl,rfl,rfl,h3,r3⟩:=trodAll_cons r2;obtain⟨rfl,rfl,rfl⟩:=trodAll_nil r3
 obtain rfl:args=#[v0,v1,v2,v3]:=by cases args;simp_all
 obtain⟨rfl,rfl⟩:=trodVars_none hV;obtain⟨a0,rfl,rfl,rfl,w0⟩:=open_int underlying3 (hval 0 3 v0 rfl rfl) h0;obtain⟨x1,rfl,hx1⟩:=lw.sN h1 (hval 1 22 v1 rfl rfl) (jZ hwt (j:=1) rfl rfl);obtain⟨a2,rfl,rfl,rfl,w2⟩:=open_int underlying2 (hval 2 2 v2 rfl rfl) h2;obtain⟨y3,rfl,hr3,hc3,hm3,hl3⟩:=lw.Ip h3 (hval 3 23 v3 rfl rfl) (jZ hwt (j:=3) rfl rfl);refine(walk a0 x1 a2 y3 W hx1 hr3 hc3 hm3 hl3).mono λe W' ⟨he,dW⟩=>?_
 subst he;exact⟨_,rfl,tX laidOut ah hW' rfl dW rfl underlying4 rfl⟩
theorem facts:joinedFacts Tryz.pinned.checked.prog 3 Tryz.f3 Rows.nodeReadsSpec Rows.nodeReadsRow=true:=by
 unfold joinedFacts;simp only[Bool.and_eq_true];and_intros;all_goals as_aux_lemma=>kernel_rfl
theorem over:Rows.nodeReadsRow.holds Tryz.pinned (OpenSpec.ofChange Rows.nodeReadsSpec) :=
 OpenClaim.holds_of_wide 3 Tryz.f3 rfl rfl rfl rfl rfl rfl rfl ⟨rfl,rfl,rfl,rfl,rfl⟩ rfl rfl rfl rfl rfl ah func3 facts
  (of_decide_eq_true ah) (by unfold Func.isWrapper;first|(rw[if_pos (by decide +kernel)];kernel_rfl)|(rw[if_neg (by decide +kernel)];exact⟨rfl,rfl⟩))
  (λos started H enc _=>lifted os started H enc)
theorem proved:Rows.NodeReadsSaid:=over
#print axioms proved
end nodeReads
end Go.Proofs.YtllmbcigmimgoaaGreat
