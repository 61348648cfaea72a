/-
  NodeIdle: a refused call changes nothing. No conditions.
-/
import Derived.Test.YtllmbcigmimgoaaGreatZB17
set_option maxRecDepth 100000
set_option maxHeartbeats 20000000
set_option linter.all false
namespace Go.Proofs.YtllmbcigmimgoaaGreat
open _root_.Go.Proofs.Tryz
open _root_.Go.RowKit renaming Below->acN
open _root_.Go.Value renaming slice->aco
namespace nodeIdle
open ChangeShapes WideShapes ChangeAt RowKit Deep
open mgr ft ino po df lw
theorem walk (n:Int)(y:qB eQ)(o:eQ)(w:World)(hy:fe w.heap.size w y.a y.l)(ho:o.ok w.heap.size w):Calls prog 8 #[vi n,y.v,.agg o.cs.toArray] w λe w'=>e=.returned (.bool true)/\acN w.heap.size w w':=by
 obtain⟨ya,l,yc⟩:=y;obtain⟨aL,file,aF,m,ba,bl,bc⟩:=o;have HL:=az hy;have HO:=az ho;dsimp only at HL;change Calls prog 8 #[vi n,aco ya l.length yc,.agg #[vi aL,vi file,vi aF,vi m,aco ba bl.length bc]] w _;clear hy ho;go_in;go_upto_region 1 with fail;refine mD λw1 HB1 NL=>?_
 have HL1:=az (HL.o.old HB1.o);have yK:=az (HO.o.old HB1.o);obtain⟨y,hy⟩:∃y,y=w.heap.size:=⟨_,rfl⟩;rw[<-hy]at NL ⊢;clear hy;have y0:w1.cell? ⟨y,0,none⟩=some (vi aL):=NL.o.cell 0;have y1:w1.cell? ⟨y,1,none⟩=some (vi file):=NL.o.cell 1;have y2:w1.cell? ⟨y,2,none⟩=some (vi aF):=NL.o.cell 2;have y3:w1.cell? ⟨y,3,none⟩=some (vi m):=NL.o.cell 3;have y4:w1.cell? ⟨y,4,none⟩=some (aco ba bl.length bc):=NL.o.cell 4;go_cut [29] from 13 to 118 (λv29 wx=>∃b:Bool,v29=.bool b/\Hid (acN w.heap.size w wx/\aD wx y 48 #[vi aL,vi file,vi aF,vi m,aco ba bl.length bc])/\Hid (b=false->owt l<=20000/\(aL=1\/aL=2\/aL=3)))
 case first =>
  go_wp2_with fail;refine(ru yc HL1.o).mono ?_;rintro e2 w2 ⟨t,rfl,rfl,hs⟩;have HS:=az hs;clear hs;cases t
  ·have HSN:=az (HS.o rfl);clear HS;go_wp2_with fail;have HLG:Hid (Calls prog 9 #[aco (some ⟨w2.heap.size,0,none⟩) 1 1] (w2.alloc (.cells #[vi aL,vi file,vi aF,vi m,aco ba bl.length bc] 48)) (Y8 [⟨aL,file,aF,m,ba,bl,bc⟩] (w2.alloc (.cells #[vi aL,vi file,vi aF,vi m,aco ba bl.length bc] 48)))):=az (ru 1 (YZ (o:=⟨aL,file,aF,m,ba,bl,bc⟩) rfl (yK.o.up HB1.o.size)));refine HLG.o.mono ?_;rintro e3 w3 ⟨t,rfl,rfl,-⟩;have HB3:=az (HB1.o.alloc HB1.o.size (.cells #[vi aL,vi file,vi aF,vi m,aco ba bl.length bc] 48));have Pb:=az (NL.o.alloc (.cells #[vi aL,vi file,vi aF,vi m,aco ba bl.length bc] 48))
   have z0:(w2.alloc (.cells #[vi aL,vi file,vi aF,vi m,aco ba bl.length bc] 48)).cell? ⟨y,0,none⟩=some (vi aL):=Pb.o.cell 0;clear y0 y1 y2 y3 y4 HLG;generalize w2.alloc (.cells #[vi aL,vi file,vi aF,vi m,aco ba bl.length bc] 48)=w3 at*;cases t
   ·by_cases h1:aL<1
    ·go_wp2;go_meet;exact⟨true,rfl,az ⟨HB3.o,Pb.o⟩,az (λh=>by cases h)⟩
    by_cases h2:3<aL
    ·go_wp2;go_meet;exact⟨true,rfl,az ⟨HB3.o,Pb.o⟩,az (λh=>by cases h)⟩
    have HK:Hid (aL=1\/aL=2\/aL=3):=az aa;have HC:Hid (decide (aL<1)=false/\decide (3<aL)=false):=az ⟨decide_eq_false h1,decide_eq_false h2⟩;go_wp2;go_meet;exact⟨false,by rw[HC.o.1,HC.o.2];rfl,az ⟨HB3.o,Pb.o⟩,az (λ_=>⟨HSN.o,HK.o⟩)⟩
   go_wp2;go_meet;exact⟨true,rfl,az ⟨HB3.o,Pb.o⟩,az (λh=>by cases h)⟩
  go_wp2;go_meet;exact⟨true,rfl,az ⟨HB1.o,NL.o⟩,az (λh=>by cases h)⟩
 case rest =>
 obtain⟨b,rfl,hw,hb⟩:=hcut;have HW:=az hw.o;have Zl:=az hb.o;clear hw hb y0 y1 y2 y3 y4 HB1 NL;obtain⟨v,hv⟩:∃v,v=wc:=⟨_,rfl⟩;subst hv;cases b;rotate_left
 ·go_wp2_with fail;refine(jB _).mono ?_;rintro e6 w6 ⟨rfl,hb6⟩;have uC:Hid (acN w.heap.size w w6):=az (HW.o.1.trans (hb6.mono HW.o.1.size));clear hb6;go_wp2;go_ret;exact⟨rfl,uC.o⟩
 obtain⟨hn,hkind⟩:=Zl.o rfl;have HN:=az hn;have HKI:=az hkind;have Zq:Hid (fe v.heap.size v ya l):=az ((HL.o.old HW.o.1).up HW.o.1.size);have HOV:Hid ((⟨aL,file,aF,m,ba,bl,bc⟩:eQ).ok v.heap.size v):=az ((HO.o.old HW.o.1).up HW.o.1.size);clear hn hkind Zl HL1 yK HL HO;go_wp2_with fail;refine(vo v n ya l yc v ak Zq.o HN.o).mono ?_;rintro e2 w2 ⟨q,K,p,is,Fs,D,a,e,rfl,hon⟩;have zJ:=az hon;have H1:=az (fu q is D);clear hon Zq HN;go_upto_region 4 with (refine fU (C:=aO q is D) rfl rfl (.tmp 7) (.tmp 35) rfl rfl rfl rfl H1.o ?_;intro w4 hb4 hl4;have nJ:=az hb4;have uf:=az hl4;clear hb4 hl4)
 have iH:Hid (¬KQ K q w2.heap.size):=az (VX zJ.o.run.pq aj);have pI:Hid (acN v.heap.size v w4):=az (zJ.o.dW.trans (uf.o.mono zJ.o.dW.size));have lF:=az (zJ.o.run.old uf.o);have HY4:Hid (aD w4 y 48 #[vi aL,vi file,vi aF,vi m,aco ba bl.length bc]):=az (HW.o.2.old pI.o);have MV:Hid (¬KQ K q y):=az (λe=>by have:=Mq zJ.o.run.pq _ e;have:=HW.o.2.lt;omega);generalize w2.heap.size=x at*;obtain⟨hk3,C9⟩:=file3_lt file;obtain⟨k,hkk⟩:∃k,k=file3 file:=⟨_,rfl⟩;rw[<-hkk]at hk3 C9;have uE:=az hk3;have HKM:=az C9;obtain⟨kd,ln,sz,d0,d1,d2,d3,d4,d5,sg,db,hik⟩:=oW is k (lF.o.fl.fam.six k)
 have hi:=wP (q:=q) (D:=D) (x:=x) uE.o hik;have hy:∀W',aD W' y 48 #[vi aL,vi file,vi aF,vi m,aco ba bl.length bc]->W'.cell? ⟨y,2,none⟩=some (vi aF)/\W'.cell? ⟨y,3,none⟩=some (vi m)/\W'.cell? ⟨y,4,none⟩=some (aco ba bl.length bc):=λW' hb=>⟨hb.cell 2,hb.cell 3,hb.cell 4⟩;obtain⟨R,hR⟩:∃R,R=p.aK:=⟨_,rfl⟩;obtain⟨d,hd⟩:∃d:Int,goInt p.M.length=vi d:=⟨_,rfl⟩;have Ja:Hid (∀V K,PQ v.heap.size V q K p->Calls prog 21 #[ptr q] V λe w'=>e=.returned (vi R)/\acN V.heap.size V w'):=az (λV K hq=>by rw[hR];exact po.fP hq);have HDT:Hid (∀V K,PQ v.heap.size V q K p->Calls prog 25 #[ptr q] V λe w'=>e=.returned (vi d)/\w'=V):=az (λV K hq=>by rw[<-hd];exact QN hq)
 have YN:Hid (∃e1 e2 e3:Int,∀V,acN w4.heap.size w4 V->Calls prog 12 #[ptr q,.agg #[vi kd,vi ln,vi sz,vi d0,vi d1,vi d2,vi d3,vi d4,vi d5,vi sg,vi db],vi aF,aco ba bl.length bc] V (OpR v.heap.size V q K p e1)/\Calls prog 23 #[ptr q,.agg #[vi kd,vi ln,vi sz,vi d0,vi d1,vi d2,vi d3,vi d4,vi d5,vi sg,vi db],vi aF] V (OpR v.heap.size V q K p e2)/\Calls prog 13 #[ptr q,.agg #[vi kd,vi ln,vi sz,vi d0,vi d1,vi d2,vi d3,vi d4,vi d5,vi sg,vi db],vi aF,vi m] V (OpR v.heap.size V q K p e3)):=az ⟨_,_,_,λV hb=>by
  have h1:=p9 (lF.o.old hb) k uE.o aF ba bl bc ((HOV.o.row.old pI.o).old hb) HOV.o.len
  have h2:=Cz (lF.o.old hb) k uE.o aF
  have h3:=EI (lF.o.old hb) k aF m
  rw[hik]at h1 h2 h3
  exact⟨h1.mono λ_ _ h=>h.opr,h2.mono λ_ _ h=>h.opr,h3.mono λ_ _ h=>h.opr⟩⟩
 clear hik hR hd hk3 C9 hkk zJ uf HOV H1;go_upto_region 6 with fail;have Zt:Hid (∀V,acN w4.heap.size w4 V->V.cell? ⟨x,0,none⟩=some (ptr q)):=az (λV hb=>(gu (nJ.o.old hb)).1 0 aa);have HB0:=az (acN.refl w4.heap.size w4).drew;have HI0:=az (Zt.o _ HB0.o);have afR:=az (Ja.o _ _ (lF.o.pq.old HB0.o));go_cut [9,10] from 39 to 118 (λv9 v10 wx=>v9=vi R/\v10=vi d/\Hid (acN w4.heap.size w4 wx))
 case first =>
  go_region_held3 (λW'=>W'.cell? ⟨x,0,none⟩=some (ptr q))
   (with_reducible (first|exact HI0.o|exact HI1.o|fail))
   (first
    |(go_at_call 21;refine afR.o.mono ?_;rintro e5 w5 ⟨rfl,hb5⟩;have HB1:Hid (acN w4.heap.size w4 w5):=az (HB0.o.trans (hb5.mono HB0.o.size));have HI1:=az (Zt.o _ HB1.o);have ajV:=az (HDT.o _ _ (lF.o.pq.old HB1.o));clear hb5)
    |(go_at_call 25;refine ajV.o.mono ?_;rintro e6 w6 ⟨rfl,rfl⟩))
  go_wp2;go_meet;exact⟨rfl,rfl,HB1⟩
 case rest =>
 obtain⟨rfl,rfl,hw5⟩:=hcut;have qG:=az hw5.o;obtain⟨w5,hw⟩:∃w5,w5=wc:=⟨_,rfl⟩;subst hw;have xR:=az (nJ.o.old qG.o);have HY5:=az (HY4.o.old qG.o);clear hw5 HB0 HI0 afR Zt nJ HY4;have y0:w5.cell? ⟨y,0,none⟩=some (vi aL):=HY5.o.cell 0;have y1:w5.cell? ⟨y,1,none⟩=some (vi file):=HY5.o.cell 1;go_wp2_with fail;refine(mf file 3 w5 aa aa).mono ?_;rintro e6 w6 ⟨rfl,rfl⟩;rw[HKM.o];obtain⟨e1,e2,e3,hop⟩:=YN.o;have uC:=az (qG.o.drew);have yK:=az (hop _ uC.o);have uG:Hid (aD w6.drew x 37 (aI (aO q is D))/\aD w6.drew y 48 #[vi aL,vi file,vi aF,vi m,aco ba bl.length bc]):=az ⟨xR.o.drew,HY5.o.drew⟩
 have ajW:=az (lF.o.pq.old uC.o);have n1:(k:Int)<3:=by have:=uE.o;omega
 clear hop YN y0 y1;have y0:w6.cell? ⟨y,0,none⟩=some (vi aL):=HY5.o.cell 0;rcases HKI.o with rfl|rfl|rfl;focus
  obtain⟨er,HC⟩:∃er,Hid (Calls prog 12 #[ptr q,.agg #[vi kd,vi ln,vi sz,vi d0,vi d1,vi d2,vi d3,vi d4,vi d5,vi sg,vi db],vi aF,aco ba bl.length bc] w6.drew (OpR v.heap.size w6.drew q K p er)):=⟨_,az yK.o.1⟩;clear yK;go_upto_region 11 with fail;go_region_held3 (λW'=>aD W' x 37 (aI (aO q is D))/\aD W' y 48 #[vi 1,vi file,vi aF,vi m,aco ba bl.length bc])
   (with_reducible (first|exact uG.o|exact mY.o|fail))
   ((go_at_call 12;refine HC.o.mono ?_;rintro e7 w7 ⟨vv,K7,p7,rfl,hgo,her⟩;have FV:=az hgo;have Za:=az her;have BG:=az ((gF.fA hgo).blk xR.o.drew iH.o);have mY:Hid (aD w7 x 37 (aI (aO q is D))/\aD w7 y 48 #[vi 1,vi file,vi aF,vi m,aco ba bl.length bc]):=az ⟨BG.o.1,((gF.fA hgo).blk HY5.o.drew MV.o).1⟩;clear hgo her))
 rotate_left
 focus
  obtain⟨er,HC⟩:∃er,Hid (Calls prog 23 #[ptr q,.agg #[vi kd,vi ln,vi sz,vi d0,vi d1,vi d2,vi d3,vi d4,vi d5,vi sg,vi db],vi aF] w6.drew (OpR v.heap.size w6.drew q K p er)):=⟨_,az yK.o.2.1⟩;clear yK;go_upto_region 13 with fail;go_region_held3 (λW'=>aD W' x 37 (aI (aO q is D))/\aD W' y 48 #[vi 2,vi file,vi aF,vi m,aco ba bl.length bc])
   (with_reducible (first|exact uG.o|exact mY.o|fail))
   ((go_at_call 23;refine HC.o.mono ?_;rintro e7 w7 ⟨vv,K7,p7,rfl,hgo,her⟩;have FV:=az hgo;have Za:=az her;have BG:=az ((gF.fA hgo).blk xR.o.drew iH.o);have mY:Hid (aD w7 x 37 (aI (aO q is D))/\aD w7 y 48 #[vi 2,vi file,vi aF,vi m,aco ba bl.length bc]):=az ⟨BG.o.1,((gF.fA hgo).blk HY5.o.drew MV.o).1⟩;clear hgo her))
 rotate_left
 focus
  obtain⟨er,HC⟩:∃er,Hid (Calls prog 13 #[ptr q,.agg #[vi kd,vi ln,vi sz,vi d0,vi d1,vi d2,vi d3,vi d4,vi d5,vi sg,vi db],vi aF,vi m] w6.drew (OpR v.heap.size w6.drew q K p er)):=⟨_,az yK.o.2.2⟩;clear yK;go_upto_region 15 with fail;go_region_held3 (λW'=>aD W' x 37 (aI (aO q is D))/\aD W' y 48 #[vi 3,vi file,vi aF,vi m,aco ba bl.length bc])
   (with_reducible (first|exact uG.o|exact mY.o|fail))
   ((go_at_call 13;refine HC.o.mono ?_;rintro e7 w7 ⟨vv,K7,p7,rfl,hgo,her⟩;have FV:=az hgo;have Za:=az her;have BG:=az ((gF.fA hgo).blk xR.o.drew iH.o);have mY:Hid (aD w7 x 37 (aI (aO q is D))/\aD w7 y 48 #[vi 3,vi file,vi aF,vi m,aco ba bl.length bc]):=az ⟨BG.o.1,((gF.fA hgo).blk HY5.o.drew MV.o).1⟩;clear hgo her))
 rotate_left
 all_goals
  have Wt:Hid (acN w.heap.size w w7):=az (by
   have h:=CR ajW.o (pI.o.trans (uC.o.mono pI.o.size)) (gF.fA FV.o)
   exact HW.o.1.trans (h.mono HW.o.1.size))
  by_cases h0:er=0
  ·have c0:((er:Int)==0)=true:=by simp[h0]
   clear h0 y0 n1;go_wp2_with fail;refine(jB _).mono ?_;rintro e6 w6 ⟨rfl,hb6⟩;have Y3:Hid (acN w.heap.size w w6):=az (Wt.o.trans (hb6.mono Wt.o.size));clear hb6;go_wp2;go_ret;exact⟨rfl,Y3.o⟩
  have c0:((er:Int)==0)=false:=by simp[h0]
  obtain rfl:=Za.o h0;have Bz:=az ((lF.o.old uC.o).go FV.o);have HR1:=az (Ja.o _ _ Bz.o.pq);have x0:w7.cell? ⟨x,0,none⟩=some (ptr q):=(gu BG.o.1).1 0 aa;clear h0 y0 n1 Za;go_wp2_with fail;refine HR1.o.mono ?_;rintro e8 w8 ⟨rfl,wT⟩;have wX:Hid (acN w.heap.size w w8):=az (Wt.o.trans (wT.mono Wt.o.size));have Ei:=az (Bz.o.old wT);have zP:=az (BG.o.1.old wT);have HD1:=az (HDT.o _ _ Ei.o.pq);have x8:w8.cell? ⟨x,0,none⟩=some (ptr q):=(gu zP.o).1 0 aa;clear wT x0 HR1;go_wp2_with fail;refine HD1.o.mono ?_;rintro e9 w9 ⟨rfl,rfl⟩;have lX:=az (JI Ei.o)
  go_wp2_with (refine zh (by rfl) (.tmp 7) rfl rfl zP.o ?_);refine lX.o.mono ?_;rintro e10 Xy ⟨K10,rfl,hrd⟩;have QG:Hid (acN w.heap.size w Xy):=az (wX.o.trans ((gF.fA hrd.go).aJ.dX (λn _ e=>Nat.le_trans HW.o.1.size (Mq Ei.o.pq n e)) wX.o.size));clear hrd;go_wp2_with fail;refine(jB _).mono ?_;rintro e6 w6 ⟨rfl,hb6⟩;have Y3:Hid (acN w.heap.size w w6):=az (QG.o.trans (hb6.mono QG.o.size));clear hb6;go_wp2;go_ret;exact⟨rfl,Y3.o⟩
theorem lifted (os:Os)(started:os.Started)(H:Type)(enc:TypeId×Value->H) :
  ReturnsInHanded {} checked os 8 .any (Rows.nodeIdleSpec.pre6 enc prog Tryz.f8 Rows.nodeIdleRow.domain false) (Rows.nodeIdleSpec.post enc prog Tryz.f8 false true false false):=by
 refine returnsInHanded_of_change_sized (C:=checked) own started ah func8
  (ChangeSpec.witness6 (enc:=enc) (C:=checked) false ⟨#[],#[.int .i64 0,.slice none 0 0,.agg #[vi 0,vi 0,vi 0,vi 0,.slice none 0 0]],[]⟩ 8 ah ah ah ah) ?_
 intro W aA args ds gs before hval0 hW hcnd hwt _;have hval:∀(j:Nat) t v,Tryz.f8.params[j]?=some t->args[j]?=some v->Value.okWide prog W .any aA t v:=hval0;have hW':=hW;obtain⟨p,q,JY,hV,rfl,hfz,hnd⟩:=hW;have hA:DataW.TrodAll enc prog W 0 (λ_=>true) true Tryz.f8.params.toList args.toList ds p:=JY;rw[params8]at hA hval hwt;obtain⟨v0,vs0,d0,ds0,p0,q0,hargs,rfl,rfl,h0,r0⟩:=trodAll_cons hA;obtain⟨v1,vs1,d1,ds1,p1,q1,rfl,rfl,rfl,h1,r1⟩:=trodAll_cons r0;obtain⟨v2,vs2,d2,ds2,p2,q2,rfl,rfl,rfl,h2,r2⟩:=trodAll_cons r1;obtain⟨rfl,rfl,rfl⟩:=trodAll_nil r2;obtain rfl:args=#[v0,v1,v2]:=by cases args;simp_all
 obtain⟨rfl,rfl⟩:=trodVars_none hV;obtain⟨a0,rfl,rfl,rfl,w0⟩:=open_int underlying3 (hval 0 3 v0 rfl rfl) h0;obtain⟨x1,rfl,hx1⟩:=lw.sN h1 (hval 1 22 v1 rfl rfl) (jZ hwt (j:=1) rfl rfl);obtain⟨o2,rfl,ho2⟩:=lw.Si h2 (hval 2 48 v2 rfl rfl) (jZ hwt (j:=2) rfl rfl);refine(walk a0 x1 o2 W hx1 ho2).mono λe W' ⟨he,dW⟩=>?_
 subst he;exact⟨_,rfl,tX laidOut ah hW' rfl dW rfl underlying4 rfl⟩
theorem facts:joinedFacts Tryz.pinned.checked.prog 8 Tryz.f8 Rows.nodeIdleSpec Rows.nodeIdleRow=true:=by
 unfold joinedFacts;simp only[Bool.and_eq_true];and_intros;all_goals as_aux_lemma=>kernel_rfl
theorem over:Rows.nodeIdleRow.holds Tryz.pinned (OpenSpec.ofChange Rows.nodeIdleSpec) :=
 OpenClaim.holds_of_wide 8 Tryz.f8 rfl rfl rfl rfl rfl rfl rfl ⟨rfl,rfl,rfl,rfl,rfl⟩ rfl rfl rfl rfl rfl ah func8 facts
  (of_decide_eq_true ah) (by unfold Func.isWrapper;first|(rw[if_pos (by decide +kernel)];kernel_rfl)|(rw[if_neg (by decide +kernel)];exact⟨rfl,rfl⟩))
  (λos started H enc _=>lifted os started H enc)
theorem proved:Rows.NodeIdleSaid:=over
#print axioms proved
end nodeIdle
end Go.Proofs.YtllmbcigmimgoaaGreat
