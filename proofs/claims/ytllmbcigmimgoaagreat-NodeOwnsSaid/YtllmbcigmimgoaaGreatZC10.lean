/-
  Lemmas for a law's proof, put together from several texts. No conditions of their own.
-/
import Derived.Test.YtllmbcigmimgoaaGreatZC09
import Derived.Test.YtllmbcigmimgoaaGreatZC03
import Derived.Test.YtllmbcigmimgoaaGreatZC07
import Derived.Sort.MapsRangeIn
import Derived.Sort.LoopGhostIn
import Derived.Test.YtllmbcigmimgoaaGreatZC04
import Derived.Test.YtllmbcigmimgoaaGreatZC06
import Derived.Test.YtllmbcigmimgoaaGreatZC08
set_option maxRecDepth 100000
set_option maxHeartbeats 20000000
set_option linter.all false
namespace Go.Proofs
open _root_.Go.Proofs.Tryz
open Shelf
def Tryz.laysLen_ren:Go.Shelf.Ren:=⟨fun|125=>127|128=>162|129=>163|n=>n,fun|46=>197|3=>3|51=>118|53=>150|4=>4|5=>5|9=>9|n=>n,fun|n=>n⟩
theorem Tryz.laysLen:Go.Proofs.Lays.n125 Tryz.prog Tryz.laysLen_ren:={mixed:=by kernel_rfl,f125:=hS func127,f128:=hS func162,f129:=hS func163,t3:=underlying3,a3:=isAgg3,z3:=sizeOf3,v3:=zeroValue3,t4:=underlying4,a4:=isAgg4,z4:=sizeOf4,v4:=zeroValue4,t5:=underlying5,a5:=isAgg5,z5:=sizeOf5,v5:=zeroValue5,t9:=underlying9,a9:=isAgg9,z9:=sizeOf9,v9:=zeroValue9,t46:=underlying197,a46:=isAgg197,z46:=sizeOf197,v46:=zeroValue197,t51:=underlying118,a51:=isAgg118,z51:=sizeOf118,v51:=zeroValue118,t53:=underlying150,a53:=isAgg150,z53:=sizeOf150,v53:=zeroValue150}
end Go.Proofs
namespace Go.Proofs.YtllmbcigmimgoaaGreat
open _root_.Go.Proofs.Tryz
open _root_.Array renaming getElem?_eq_some_iff->aaz,replicate_succ->af8,replicate_zero->af9
open _root_.Bool renaming and_eq_true->ac8,or_eq_true->ae5
open _root_.Go renaming World->acL,Ending->ah8,Calls->ac4,Value->acK,callsIn_wide->agn,bodyPost_ret->ac5,IntKind->acS
open _root_.Go.Ending renaming returned->ab4
open _root_.Go.Fence renaming wide->agb
open _root_.Go.IntKind renaming i64->adk
open _root_.Go.IntWalk renaming i64_in->adl
open _root_.Go.Obj renaming cells->ach,deferred->adL
open _root_.Go.Oper renaming semAt_some->agh
open _root_.Go.RowKit renaming Below->acN
open _root_.Go.Value renaming slice->aco,tuple->adg,bool->acg
open _root_.Go.World renaming putObj_heap_other->af4,putObj->af6,putObj_heap_same->agc,alloc_heap_new->agf
open _root_.List renaming length_map->abT,size_toArray->af7,range->ac9,length_cons->adV,append_toArray->aga,push_toArray->agd,cons_append->age,length_nil->afO,nil_append->afl,getElem?_eq_getElem->aaj,mem_map->aay,append_assoc->adM,getElem?_map->aeX,getD->afh,getElem?_eq_none->ac7
open _root_.List.Perm renaming refl->aiF
open _root_.Nat renaming le_trans->abX,lt_of_lt_of_le->adN,reduceAdd->agi,reduceSub->agj
open _root_.Option renaming isSome_iff_exists->aeV
open _root_.Or renaming inr->acm,inl->ack
open _root_.Prod renaming fst->af5
namespace ft
open RowKit mgr
def sealedG_eq (F:FP.Ft)(text:List Nat):F.agt text=if F.ready≠0 then some (F.ready,F) else if (text.length:Int)≠F.c.S-8 then some (1,F) else if F.shut then some (41,F) else
  match F.xZ 2 0 (FP.jJ F.aC F.bad text) with
  |none=>none
  |some ((p,e),f1)=>if e≠0 then some (e,f1) else some (0,IG f1 p text):=rfl
def Qc {F V:FP.Ft}{aL:Int}{aB:Nat}{b:List Nat}{p:FP.cB}{e:Int}(hS:FP.Sound F)(hb:∀y∈b,y<256)(h:F.xZ aL aB b=some ((p,e),V)) :
  Fit V/\V.aC=F.aC/\V.bad=F.bad/\(e=0->V.aM<4611686018427387904):=by
 obtain⟨_,e1,f1,h1,h2⟩:=ym h;obtain⟨e',f',h3,h4,hk,_⟩:=FP.tL hS;rw[h1]at h3;injection h3 with h3;injection h3 with _ h3;subst h3;rcases h2 with⟨h6,h5⟩|⟨_,p',f2,h5,h6⟩;injection h5 with h7 h5;injection h7 with _ h7;rw[h5];exact⟨h4.fit,hk.num.1,hk.num.2.1,λh8=>absurd (h7.symm.trans h8) h6⟩;injection h6 with _ h6;rw[h6];have h8:=Fit.put h4.fit hb h5;refine⟨h8.1,h8.2.2.2.2.2.1.trans hk.num.1,h8.2.2.2.2.2.2.1.trans hk.num.2.1,λ_=>?_⟩;rw[h8.2.2.2.2.2.2.2.2.2.1];exact(D9 (Bd h5).2.2.1).2.1
def aeZ (aA:Nat)(w:acL)(f:Nat)(X:dm)(p:FP.cB)(n:Int)(V:FP.Ft)(e:ah8)(w':acL):Prop :=
 ∃X',e=ab4 (adg #[dz p,vi n])/\aQ aA w f X w' X'/\X'.view=V
variable{aA:Nat}{w w':acL}{f:Nat}{X X':dm}
def Seal_any (h:bP aA w f X)(LM:FP.Sound X.view)(hbase:aA<=w.heap.size)(a:Option Addr)(b:List Nat)(c:Nat)(hr:dx aA w a b)(hl:b.length<=10000)(r:Int×FP.Ft)(hq:X.view.agt b=some r) :
  ac4 prog 76 #[ptr f,.slice a b.length c] w (dY aA w f X r):=by
 have H:=az h;have hx:X.Fit:=LM.fit;have HX:=az hx;have HSX:=az LM;have HR:=az hr;rw[sealedG_eq]at hq;have jS:Hid (X.view.c.S=X.M.S):=az rfl;rw[jS.o]at hq;have HQ:=az hq;have alr:=hx.size;have anU:=hx.bI.2.2.2.2;have q8:adk.wrap ((X.M.S:Int)-8)=(X.M.S:Int)-8:=adl _ aa;clear h hx hr hq LM;go_in;go_wp2_with fail;refine(ou H.o).mono ?_;rintro e w' ⟨rfl,rfl⟩;generalize X.view.ready=lg at*;by_cases h0:lg=0
 ·subst h0;have HQ:Hid _:=az ((if_neg ai).symm.trans HQ.o);go_wp2_with fail;refine(Iy H.o).mono ?_;rintro e w3 ⟨rfl,hb3⟩;have HB3:=az hb3;have H3:=az (H.o.old hb3);clear hb3;by_cases hS:(b.length:Int)=X.M.S-8
  ·have HQ:Hid _:=az ((if_neg (by simpa using hS)).symm.trans HQ.o);have hS':((b.length:Int) != (X.M.S:Int)-8)=false:=by simp[hS]
   have HS:=az hS;clear hS;go_wp2_with fail;refine(vS H3.o HX.o).mono ?_;rintro e w4 ⟨rfl,hb4⟩;have pI:=az (HB3.o.trans (hb4.mono HB3.o.size));have H4:=az (H3.o.old hb4);clear hb4 H3 HB3;generalize X.view.shut=sh at*;cases sh
   ·have HQ:Hid _:=az ((if_neg ai).symm.trans HQ.o);cases hput:X.view.xZ 2 0 (FP.jJ X.view.aC X.view.bad b) with
    |none =>
     rw[hput]at HQ;cases HQ.o
    |some q =>
     obtain⟨⟨⟨qb,qp⟩,e0⟩,V⟩:=q;rw[hput]at HQ;have ZR:Hid ((if e0≠0 then some (e0,V) else some ((0:Int),IG V ⟨qb,qp⟩ b))=some r):=HQ;clear HQ;have UK:=az hput;have lX:=az (o7 (aC:=X.view.aC) (bad:=X.view.bad) HR.o.row.small);have HFV:=az (Qc HSX.o lX.o hput);have HHL:Hid ((FP.jJ X.view.aC X.view.bad b).length<=900000):=az (by unfold FP.jJ;simp;omega);clear hput;go_upto_region 8 with fail;have c2:w4.cell? ⟨f,2,none⟩=some (vi X.aC):=H4.o.obj.cell 2;have c3:w4.cell? ⟨f,3,none⟩=some (vi X.bad):=H4.o.obj.cell 3;have HS:Hid (w4.drew.cell? ⟨f,2,none⟩=some (vi X.aC)/\w4.drew.cell? ⟨f,3,none⟩=some (vi X.bad)):=az ⟨c2,c3⟩
     have H4D:=az (H4.o.old au);have qK:=az ((aQ.aX H.o pI.o).trans (aQ.aX H4.o au));have bK:=az (HR.o.old pI.o.drew);have HHD:Hid (∀W,acN w4.drew.heap.size w4.drew W->ac4 prog 117 #[vi X.aC,vi X.bad,.slice a b.length c] W λe w'=>∃v,e=.returned v/\Own w' W.heap.size v (FP.jJ X.aC X.bad b)/\acN W.heap.size W w') :=
      az (λW hb=>SY X.aC X.bad a b c W (bK.o.old hb).row hl ⟨HX.o.res.1,HX.o.res.2.1⟩ ⟨HX.o.res.2.2.1,HX.o.res.2.2.2⟩)
     have Bq:Hid (∀W a5 k5,acN w4.drew.heap.size w4.drew W->dx aA W a5 (FP.jJ X.aC X.bad b)->ac4 prog 115 #[ptr f,.agg #[.int .i64 2,.int .u32 0,.int .u64 0,.int .u64 0],.slice a5 (FP.jJ X.aC X.bad b).length k5] W (aeZ aA W f X ⟨qb,qp⟩ e0 V)) :=
      az (λW a5 k5 hb hs=>sI (H4D.o.old hb) HSX.o (abX hbase (abX pI.o.size hb.size)) 2 0 a5 _ k5 hs HHL.o _ UK.o)
     have HK1:Hid (∀W,acN w4.drew.heap.size w4.drew W->(W.cell? ⟨f,2,none⟩=some (vi X.aC)/\W.cell? ⟨f,3,none⟩=some (vi X.bad))):=az (λW hb=>⟨cell_below HS.o.1 hb,cell_below HS.o.2 hb⟩);have zG:Hid (∀W W' Y,aQ aA W f X W' Y->Y.view=V->(W'.cell? ⟨f,2,none⟩=some (vi X.aC)/\W'.cell? ⟨f,3,none⟩=some (vi X.bad))):=az (λW W' Y q e=>by
      have e1:Y.aC=X.aC:=(congrArg FP.Ft.aC e).trans HFV.o.2.1
      have e2:Y.bad=X.bad:=(congrArg FP.Ft.bad e).trans HFV.o.2.2.1
      rw[<-e1,<-e2]
      exact⟨q.at_.obj.cell 2,q.at_.obj.cell 3⟩)
     have uE:Hid (∀(W:acL) o,(W.cell? ⟨f,2,none⟩=some (vi X.aC)/\W.cell? ⟨f,3,none⟩=some (vi X.bad))->((W.alloc o).cell? ⟨f,2,none⟩=some (vi X.aC)/\(W.alloc o).cell? ⟨f,3,none⟩=some (vi X.bad))) :=
      az (λW o h=>⟨cell_below h.1 ax,cell_below h.2 ax⟩)
     have KO:Hid (f<w4.heap.size):=az H4.o.obj.lt;have HK4:Hid (∀(W:acL) g u v,w4.heap.size<=g->(W.cell? ⟨f,2,none⟩=some (vi X.aC)/\W.cell? ⟨f,3,none⟩=some (vi X.bad))->(((W.setCell ⟨g,0,none⟩ u).setCell ⟨g,1,none⟩ v).cell? ⟨f,2,none⟩=some (vi X.aC)/\((W.setCell ⟨g,0,none⟩ u).setCell ⟨g,1,none⟩ v).cell? ⟨f,3,none⟩=some (vi X.bad))) :=
      az (λW g u v hg h=>⟨(lY W g 0 1 u v).cell h.1 (by have:=KO.o;dsimp only;omega),(lY W g 0 1 u v).cell h.2 (by have:=KO.o;dsimp only;omega)⟩)
     have Zd:Hid (∀g,w4.heap.size<=g->¬X.foot f g):=az (λg hg e=>by have:=H4.o.lt _ e;omega);generalize FP.jJ X.aC X.bad b=hd at*;go_cut [6,7] from 29 to 135 (λv6 v7 wx=>∃g7 X6,v6=.pointer (some ⟨g7,0,none⟩)/\v7=vi e0/\Hid (aD wx g7 165 #[vi qb,vi qp])/\Hid (aQ aA w' f X wx X6/\X6.view=V))
     case first =>
      go_region_held3 (λw'=>w'.cell? ⟨f,2,none⟩=some (vi X.aC)/\w'.cell? ⟨f,3,none⟩=some (vi X.bad))
       (first
        |exact HS.o
        |exact uE.o _ _ HS.o
        |exact HK1.o _ (by assumption)
        |exact uE.o _ _ (HK1.o _ (by assumption))
        |exact zG.o _ _ _ (by assumption) (by assumption)
        |exact uE.o _ _ (zG.o _ _ _ (by assumption) (by assumption))
        |exact HK4.o _ _ _ _ (by assumption) (zG.o _ _ _ (by assumption) (by assumption)))
       (first
        |(go_at_call 117;first
          |(refine(HHD.o _ ak).mono ?_;rintro e w5 ⟨v5,rfl,jT,hb5⟩;obtain⟨a5,k5,rfl,hs5,hl5,JR,_⟩:=jT.Db (aA:=aA) lX.o)
          |(refine(HHD.o (w4.drew.alloc (.cells #[vi 0,vi 0] 165)) ax).mono ?_;rintro e w5 ⟨v5,rfl,jT,hbx⟩;obtain⟨a5,k5,rfl,hs5,hl5,JR,_⟩:=jT.Db (aA:=aA) lX.o
            have hb5:=((acN.refl w4.drew.heap.size w4.drew).alloc aj (.cells #[vi 0,vi 0] 165)).trans (hbx.mono ai)
            have fb5:=(aD.new w4.drew 165 #[vi 0,vi 0]).old hbx))
        |(go_at_call 115;first
          |(refine(Bq.o (w5.alloc (.cells #[vi 0,vi 0] 165)) _ _ (hb5.alloc hb5.size _) (hs5.old ax)).mono ?_;rintro e w6 ⟨X6,rfl,uy,hv6⟩
            have hge:w4.heap.size<=w5.heap.size:=hb5.size
            have fb6:=uy.far (aD.new w5 165 #[vi 0,vi 0]) (Zd.o _ hge)
            obtain⟨z0,z1,z2,z3⟩:=bO fb6)
          |(refine(Bq.o _ _ _ hb5 hs5).mono ?_;rintro e w6 ⟨X6,rfl,uy,hv6⟩
            have hge:w4.heap.size<=w4.heap.size:=aj
            have fb6:aD w6 w4.heap.size 165 #[vi 0,vi 0]:=uy.far fb5 (Zd.o _ hge)
            obtain⟨z0,z1,z2,z3⟩:=bO fb6)
          |(refine(Bq.o _ _ _ hb5 hs5).mono ?_;rintro e w6 ⟨X6,rfl,uy,hv6⟩)))
      ·go_wp2;go_meet;exact⟨w6.heap.size,X6,rfl,rfl,az (aD.new _ _ _),az ⟨(qK.o.trans ((aQ.aX H4D.o hb5).trans uy)).old ax,hv6⟩⟩
      ·have hw:=qK.o.trans ((aQ.aX H4D.o (hb5.alloc hb5.size (.cells #[vi 0,vi 0] 165))).trans uy);have hsz:w'.heap.size<=w4.heap.size:=pI.o.size;have ff:=hw.fill (g:=w5.heap.size) aa fb6 (λe=>by
        rcases uy.foot _ e with h1|h1
        exact Zd.o _ hge h1
        simp at h1;omega) aa (vi qb) (vi qp)
       go_wp2;go_meet;exact⟨w5.heap.size,X6,rfl,rfl,az ff.1,az ⟨ff.2,hv6⟩⟩
      have hw:=qK.o.trans ((aQ.aX H4D.o hb5).trans uy);have hsz:w'.heap.size<=w4.heap.size:=pI.o.size;have ff:=hw.fill (g:=w4.heap.size) hsz fb6 (λe=>by
       rcases uy.foot _ e with h1|h1
       exact Zd.o _ hge h1
       have h2:w4.heap.size<w5.heap.size:=fb5.lt
       omega) aa (vi qb) (vi qp)
      go_wp2;go_meet;exact⟨w4.heap.size,X6,rfl,rfl,az ff.1,az ⟨ff.2,hv6⟩⟩
     case rest =>
     obtain⟨g7,X6,rfl,rfl,ZT,hcut⟩:=hcut;have Dp:=az hcut.1;have UC:=az hcut.2;clear hcut HHD Bq HK1 zG uE HK4 HS c2 c3 H4D H4 pI lX HHL UK Zd KO qK bK;by_cases he0:¬e0=0
     ·have Yo:Hid (r=(e0,V)):=az (by
       have h1:=ZR.o
       rw[if_pos he0]at h1
       injection h1 with h1
       exact h1.symm)
      have hne:((e0:Int) != 0)=true:=bne_iff_ne.2 he0;clear he0 ZR;go_wp2;go_ret;exact dY.mk Yo.o Dp.o UC.o
     obtain rfl:e0=0:=Classical.byContradiction he0;have Yo:Hid (some ((0:Int),IG V ⟨qb,qp⟩ b)=some r):=az ((if_neg (by simp:¬(0:Int)≠0)).symm.trans ZR.o);have HEP:Hid (V.aM<4611686018427387904):=az (HFV.o.2.2.2 rfl);have aje:=az HFV.o.1;clear he0 ZR HFV;have ZR:=Yo;clear Yo;go_upto_region 11 with fail;obtain⟨y0,y1,_,_⟩:=bO ZT.o;have c6:wc.cell? ⟨f,6,none⟩=some (.map (some X6.bn)):=Dp.o.at_.obj.cell 6;obtain⟨w8,rG,hm,hgr⟩:=rE (Dp.o.at_.old au).now 0 qb qp;have C8:=az ((Dp.o.old au).trans ((Dp.o.at_.old au).Fp hgr hm))
     have hup:(Instr.mapUpdate 149 (.map (some X6.bn)) (.int .u32 0) (.agg #[vi qb,vi qp])).run prog wc.drew=.ok () w8:=rG.run;have ab0:X6.bn≠g7:=Dp.o.at_.now.dM ZT.o;have mV:Hid (w8.cell? ⟨f,6,none⟩=some (.map (some X6.bn))/\w8.cell? ⟨g7,0,none⟩=some (vi qb)/\w8.cell? ⟨g7,1,none⟩=some (vi qp)):=az ⟨C8.o.at_.obj.cell 6,
      (ZT.o.drew.grown hgr (λe=>by injection e with e;exact ab0 e.symm)).cell 0,(ZT.o.drew.grown hgr (λe=>by injection e with e;exact ab0 e.symm)).cell 1⟩
     have mZ:Hid (wc.drew.cell? ⟨f,6,none⟩=some (.map (some X6.bn))/\wc.drew.cell? ⟨g7,0,none⟩=some (vi qb)/\wc.drew.cell? ⟨g7,1,none⟩=some (vi qp)):=az ⟨c6,y0,y1⟩;clear rG hm hgr ab0;go_region_held3 (λW=>W.cell? ⟨f,6,none⟩=some (.map (some X6.bn))/\W.cell? ⟨g7,0,none⟩=some (vi qb)/\W.cell? ⟨g7,1,none⟩=some (vi qp))
      (first|exact mZ.o|exact mV.o)
      (fail)
     have c6b:=mV.o.1;clear hup c6 y0 y1 ZT mZ mV;have Jw:=aje;have HVN:Hid (X6.N=V.now/\X6.S=V.bD/\X6.D=V.gone):=az ⟨congrArg FP.Ft.now UC.o,congrArg FP.Ft.bD UC.o,congrArg FP.Ft.gone UC.o⟩;have Dt:Hid (Low (MP.put V.now 0 ⟨qb,qp⟩)):=az (Jw.o.oG.put (k:=0) ag _);have zQ:Hid (∀done:Mp FP.cB,(∀x∈done,x∈MP.put V.now 0 ⟨qb,qp⟩)->rH V.c V.g.aC V.g.bad (done.foldl FP.Sl.take ⟨V.g,V.bD,V.gone⟩)) :=
      az (λdone hd=>rH.takes (λx hx=>Dt.o.2 x (hd x hx)) ⟨Jw.o.lL,⟨rfl,rfl⟩,Jw.o.slow,Jw.o.kQ⟩)
     have HV8:Hid ({X6 with N:=MP.put X6.N 0 ⟨qb,qp⟩:dm}.view={V with now:=MP.put V.now 0 ⟨qb,qp⟩}):=az (by rw[<-UC.o]);have HNQ:Hid ({X6 with N:=MP.put X6.N 0 ⟨qb,qp⟩:dm}.N=MP.put V.now 0 ⟨qb,qp⟩):=az (by show MP.put X6.N 0 _=_;rw[HVN.o.1]);have ab3:Hid (({X6 with N:=MP.put X6.N 0 ⟨qb,qp⟩}:dm).bn=X6.bn):=az rfl;generalize hX8:({X6 with N:=MP.put X6.N 0 ⟨qb,qp⟩}:dm)=X8 at*;generalize hN8:MP.put V.now 0 ⟨qb,qp⟩=N8 at*;have HTS:Hid (rJ V ⟨qb,qp⟩=N8.foldl FP.Sl.take ⟨V.g,V.bD,V.gone⟩):=az (by rw[<-hN8];rfl);clear hX8 hN8 Dp UC HVN;obtain⟨w9,DJ,hit⟩:=zO.begin (b:=X6.bn) C8.o (.inl ab3.o.symm) hbase (by rw[<-ab3.o];exact C8.o.at_.now)
     have Da:=az DJ;have HIT:=az hit;rw[HNQ.o]at HIT;clear DJ hit;generalize w8.heap.size=rr at*;go_wp2_with (at_range;refine iq rfl (.tmp 55) rfl rfl Da.o.run ?_);go_frame;clear Da c6b;generalize X6.bn=bn at*;go_loopg [8] N8.length (λk _ wr=>∃done left Y,left.length<=k/\Hid (zO aA w' f X rr bn left wr Y/\Y.bn=bn/\Y.view={V with now:=N8,g:=(done.foldl FP.Sl.take ⟨V.g,V.bD,V.gone⟩).g,bD:=(done.foldl FP.Sl.take ⟨V.g,V.bD,V.gone⟩).bD,gone:=(done.foldl FP.Sl.take ⟨V.g,V.bD,V.gone⟩).gone}/\(done++left).Perm N8))
     case atStart=>exact⟨[],N8,X8,aj,az ⟨HIT.o,ab3.o,HV8.o,aiF _⟩⟩
     case round =>
      obtain⟨done,left,Y,hlk,hrd⟩:=hrel;have HIY:=az hrd.o.1;have HYB:=az hrd.o.2.1;have Vk:=az hrd.o.2.2.1;have Lj:=az hrd.o.2.2.2;clear hrd HIT C8;rcases HIY.o.next with⟨hnil,hnx⟩|⟨k,pb,pp,wn,hmem,hnx,hit2,hlt2,Ju,hen⟩
      ·have iH:=az hnx;have XP:=az hnil;clear hnx hnil;have fV:Hid (done.foldl FP.Sl.take ⟨V.g,V.bD,V.gone⟩=rJ V ⟨qb,qp⟩):=az (by
        have hp:=Lj.o
        rw[XP.o,List.append_nil]at hp
        rw[Kz Dt.o.1 hp Jw.o.slow.1 Jw.o.kQ.1,HTS.o])
       rw[fV.o]at Vk;have HK1:Hid (rH V.c V.g.aC V.g.bad (rJ V ⟨qb,qp⟩)):=az (by rw[HTS.o];exact zQ.o N8 (λ_ h=>h));clear fV Lj XP HTS zQ hlk;have HSF:Hid (IG V ⟨qb,qp⟩ b={V with g:=(sQ (rJ V ⟨qb,qp⟩)).g,bD:=(sQ (rJ V ⟨qb,qp⟩)).bD,now:=[],gone:=[],aM:=V.aM+1,text:=b}):=az rfl;have HST:Hid (sQ (rJ V ⟨qb,qp⟩)=(rJ V ⟨qb,qp⟩).gone.foldl FP.Sl.strike (rJ V ⟨qb,qp⟩)):=az rfl;generalize rJ V ⟨qb,qp⟩=s1 at*;generalize sQ s1=s2 at*;have HFN:Hid (Fit {V with now:=N8}):=az (Jw.o.now Dt.o);have HYD:Hid (Y.D=s1.gone):=az (congrArg FP.Ft.gone Vk.o)
       obtain⟨w2,DJ,hit⟩:=zO.begin (b:=Y.bg) HIY.o.goes (.inr rfl) hbase HIY.o.goes.at_.gone;have Da:=az DJ;have HIT:=az hit;rw[HYD.o]at HIT;have c7:wr.cell? ⟨f,7,none⟩=some (.map (some Y.bg)):=HIY.o.goes.at_.obj.cell 7;clear DJ hit HYD HIY;generalize wr.heap.size=r2 at*;go_wp2_with (first|(at_next;refine dK rfl (.tmp 56) rfl rfl (iH.o.run _) ?_)|(at_range;refine iq rfl (.tmp 93) rfl rfl Da.o.run ?_));go_frame;clear c7 Da iH;generalize hyg:Y.bg=bg at*;have HYG:=az hyg;clear hyg;go_loopg [12] s1.gone.length (λk _ wr=>∃done left Z,left.length<=k/\Hid (zO aA w' f X r2 bg left wr Z/\Z.bg=bg/\Z.view={V with now:=N8,g:=(done.foldl FP.Sl.strike s1).g,bD:=(done.foldl FP.Sl.strike s1).bD,gone:=(done.foldl FP.Sl.strike s1).gone}/\(done++left).Perm s1.gone))
       case atStart=>exact⟨[],s1.gone,Y,aj,az ⟨HIT.o,HYG.o,Vk.o,aiF _⟩⟩
       case round =>
        obtain⟨Jy,ZU,Z,hlk2,hrd⟩:=hrel;have Yp:=az hrd.o.1;have Yq:=az hrd.o.2.1;have Vl:=az hrd.o.2.2.1;have HPZ:=az hrd.o.2.2.2;clear hrd HIT Vk HYB;rcases Yp.o.next with⟨hnil,hnx⟩|⟨k,pb,pp,wn,hmem,hnx,hit2,hlt2,Ju,hen⟩
        ·have iH:=az hnx;have XP:=az hnil;clear hnx hnil;have HS2:Hid (Jy.foldl FP.Sl.strike s1=s2):=az (by
          have hp:=HPZ.o
          rw[XP.o,List.append_nil]at hp
          rw[Fz HK1.o.kQ.1 hp HK1.o.slow.1,HST.o])
         rw[HS2.o]at Vl;clear HS2 HPZ XP hlk2;have IB:=az Yp.o.goes;clear Yp;have hmm:=@run_makeMap prog;go_upto_region 25 with (at_next;refine dK rfl (.tmp 94) rfl rfl (iH.o.run _) ?_);have HB2:Hid (acN wr.heap.size wr ((wr.alloc (.map #[] 0)).alloc (.map #[] 0))):=az (ax.alloc ai _);have HGA:=az (IB.o.old HB2.o);have c6:((wr.alloc (.map #[] 0)).alloc (.map #[] 0)).cell? ⟨f,6,none⟩=some (.map (some Z.bn)):=HGA.o.at_.obj.cell 6;have c7:((wr.alloc (.map #[] 0)).alloc (.map #[] 0)).cell? ⟨f,7,none⟩=some (.map (some Z.bg)):=HGA.o.at_.obj.cell 7
         have z6:((wr.alloc (.map #[] 0)).alloc (.map #[] 0)).frozen? ⟨f,6,none⟩=false:=HGA.o.at_.obj.frozen 6;have z7:((wr.alloc (.map #[] 0)).alloc (.map #[] 0)).frozen? ⟨f,7,none⟩=false:=HGA.o.at_.obj.frozen 7;go_upto_region 26 with fail;have wU:Hid (aA<=wr.heap.size):=az (abX hbase IB.o.size);have Ik:=az (IB.o.fresh wU.o);have HBV:Hid (({Z with bn:=wr.heap.size,N:=[],bg:=wr.heap.size+1,D:=[]}:dm).view={V with g:=s2.g,bD:=s2.bD,now:=[],gone:=[]}):=az (by
          show ({Z.view with now:=[],gone:=[]}:FP.Ft)=_
          rw[Vl.o])
         clear HGA HB2 c6 c7 z6 z7 wU Vl IB Yq iH hmm;generalize ((((wr.alloc (.map #[] 0)).alloc (.map #[] 0)).setCell ⟨f,6,none⟩ (.map (some wr.heap.size))).setCell ⟨f,7,none⟩ (.map (some (wr.heap.size+1))))=wk at*;generalize ({Z with bn:=wr.heap.size,N:=[],bg:=wr.heap.size+1,D:=[]}:dm)=Zb at*;have HBE:Hid (Zb.aM=V.aM):=az (congrArg FP.Ft.aM HBV.o);have c9:wk.cell? ⟨f,9,none⟩=some (vq Zb.aM):=Ik.o.at_.obj.cell 9;have f9:=Ik.o.at_.obj.frozen 9;have HF9:=az (Ik.o.at_.field (X':={Zb with aM:=Zb.aM+1}) 9 (vq (Zb.aM+1)) rfl ⟨rfl,rfl,rfl⟩ ⟨Ik.o.at_.text,Ik.o.at_.lC⟩ ⟨rfl,rfl⟩ ⟨rfl,rfl⟩ ⟨rfl,rfl⟩ ⟨rfl,rfl,rfl⟩ (abX hbase Ik.o.size))
         have abW:((Zb.aM:Int)+1)%18446744073709551616=(Zb.aM:Int)+1:=by have:=HBE.o;have:=HEP.o;omega
         go_upto_region 27 with fail;change Code.wp _ _ _ _ (wk.setCell ⟨f,9,none⟩ (vq (Zb.aM+1)));have Ej:=az (Ik.o.trans HF9.o);have H9V:Hid (({Zb with aM:=Zb.aM+1}:dm).view={V with g:=s2.g,bD:=s2.bD,now:=[],gone:=[],aM:=V.aM+1}):=az (by
          show ({Zb.view with aM:=Zb.aM+1}:FP.Ft)=_
          rw[HBV.o,HBE.o])
         clear c9 f9 abW HF9 Ik HBV HBE;generalize wk.setCell ⟨f,9,none⟩ (vq (Zb.aM+1))=wl at*;generalize ({Zb with aM:=Zb.aM+1}:dm)=Zc at*;have HRL:=az (HR.o.fD Ej.o.aJ (λn e=>H.o.loose n e));go_wp2_with fail;refine(jr a b c _ HRL.o.row aa).mono ?_;rintro e w5 ⟨v5,rfl,jT,hb5⟩;obtain⟨a5,k5,rfl,hs5,hl5,JR,_⟩:=jT.Db (aA:=aA) HR.o.row.small;have Bl:=az (Ej.o.old hb5);have mY:=az hs5;have c4:w5.cell? ⟨f,4,none⟩=some (.slice Zc.ta Zc.tx.length Zc.tc):=Bl.o.at_.obj.cell 4;have f4:=Bl.o.at_.obj.frozen 4;have OV:=az (Bl.o.trans (Bl.o.at_.field (X':={Zc with ta:=a5,tx:=b,tc:=k5}) 4 (.slice a5 b.length k5) rfl ⟨rfl,rfl,rfl⟩ ⟨mY.o,hl5,JR⟩ ⟨rfl,rfl⟩ ⟨rfl,rfl⟩ ⟨rfl,rfl⟩ ⟨rfl,rfl,rfl⟩ (abX hbase Bl.o.size)))
         have ajg:Hid (({Zc with ta:=a5,tx:=b,tc:=k5}:dm).view=IG V ⟨qb,qp⟩ b):=az (by
          rw[HSF.o]
          show ({Zc.view with text:=b}:FP.Ft)=_
          rw[H9V.o])
         clear hb5 jT hs5 Ej H9V;go_wp2;go_ret;exact dY.mk (by have:=ZR.o;cases this;rfl) OV.o ajg.o
        have iH:=az hnx;have HI2:=az hit2;have ab6:=az Ju;clear hnx Ju hmem Yp;go_upto_region 23 with (at_next;refine dK rfl (.tmp 94) rfl rfl (iH.o.run _) ?_);generalize hsd:Jy.foldl FP.Sl.strike s1=sd at*;have Xx:=az hsd;have HZS:Hid (Z.S=sd.bD/\Z.G.view=sd.g):=az ⟨congrArg FP.Ft.bD Vl.o,congrArg FP.Ft.g Vl.o⟩;have HZF:Hid Z.Fit:=az (dm.fit_of Vl.o (Fit.sl HFN.o (by rw[<-hsd];exact HK1.o.strikes Jy)));have HI3:=az (HI2.o.old au);obtain⟨ob,op,L,Dx⟩:∃ob op:Int,(Instr.lookup 149 (.map (some Z.bs)) (.int .u32 k) false).run prog wn.drew=.ok (.agg #[vi ob,vi op]) wn.drew/\(MP.get Z.S k).getD default=⟨ob,op⟩:=by
         have h:=HI3.o.goes.at_.bD.lookup underlying149 underlying118 (vR _) k;cases hg:MP.get Z.S k with
         |none=>rw[hg]at h;exact⟨0,0,h,rfl⟩
         |some p=>rw[hg]at h;exact⟨p.block,p.aB,h,rfl⟩
        have ZC:=az Dx;clear hsd Dx iH hit2 hen;have hf0:=aaJ ob op;have c1:wn.cell? ⟨f,1,none⟩=some (ptr Z.m):=HI2.o.goes.at_.obj.cell 1;have c5:wn.cell? ⟨f,5,none⟩=some (.map (some Z.bs)):=HI2.o.goes.at_.obj.cell 5;have HS:Hid (wn.drew.cell? ⟨f,1,none⟩=some (ptr Z.m)/\wn.drew.cell? ⟨f,5,none⟩=some (.map (some Z.bs))):=az ⟨c1,c5⟩;have OB:=az (Bh HI3.o.goes.at_ HZF.o ob);have nS:Hid (∀W,bJ aA wn.drew Z.m Z.G Z.M W (Z.G.view.drop ob).2 Z.M->(W.cell? ⟨f,1,none⟩=some (ptr Z.m)/\W.cell? ⟨f,5,none⟩=some (.map (some Z.bs)))) :=
         az (λW q=>⟨(HI3.o.drop q).goes.at_.obj.cell 1,(HI3.o.drop q).goes.at_.obj.cell 5⟩)
        go_region_held3 (λw'=>w'.cell? ⟨f,1,none⟩=some (ptr Z.m)/\w'.cell? ⟨f,5,none⟩=some (.map (some Z.bs)))
         (first|exact HS.o|exact nS.o _ (by assumption))
         (first|(go_at_call 109;refine OB.o.mono ?_;rintro e w3 ⟨rfl,hg3⟩))
        have Wq:=az (HI3.o.drop hg3);clear hg3 HS OB nS c1 c5 L hf0 HI2 HI3 HZF;obtain⟨w4,hdel,SV,IA⟩:=xH Wq.o.goes.at_.bD k;have vQ:=az hdel;have HI6:=az (Wq.o.bD IA SV);have c5:w3.cell? ⟨f,5,none⟩=some (.map (some Z.bs)):=Wq.o.goes.at_.obj.cell 5;clear hdel SV IA;go_wp2_with (at_delete;refine eu rfl (.tmp 114) (.tmp 115) rfl rfl rfl (vQ.o.run _) ?_);go_roundg (MP.del ZU k).length
        case measure=>omega
        case rel=>exact⟨Jy++[(k,⟨pb,pp⟩)],MP.del ZU k,_,aj,az ⟨HI6.o,Yq.o,by
         rw[List.foldl_append,Xx.o]
         show _=({V with now:=N8,g:=(sd.g.drop ((MP.get sd.bD k).getD default).block).2,bD:=MP.del sd.bD k,gone:=sd.gone}:FP.Ft)
         rw[<-HZS.o.1,ZC.o,<-HZS.o.2]
         show ({Z.view with g:=(Z.G.view.drop ob).2,bD:=MP.del Z.S k}:FP.Ft)=_
         rw[Vl.o],by
         rw[adM]
         exact(ab6.o.symm.append_left Jy).trans HPZ.o⟩⟩
      have iH:=az hnx;have HI2:=az hit2;have ab6:=az Ju;clear hnx hit2 Ju hmem HIY;go_upto_region 15 with (at_next;refine dK rfl (.tmp 56) rfl rfl (iH.o.run _) ?_);have FB9:Hid (aD (wn.alloc (.cells #[vi pb,vi pp] 165)) wn.heap.size 165 #[vi pb,vi pp]):=az (aD.new _ _ _);have HI3:=az (HI2.o.old (ak.alloc aj (.cells #[vi pb,vi pp] 165)));have ZM:Hid (¬Y.foot f wn.heap.size):=az (λe=>by have:=HI2.o.goes.at_.lt _ e;omega);clear HI2 hen iH;generalize wn.alloc (.cells #[vi pb,vi pp] 165)=wa at*;generalize wn.heap.size=g9 at*
      have c5:wa.cell? ⟨f,5,none⟩=some (.map (some Y.bs)):=HI3.o.goes.at_.obj.cell 5;obtain⟨ob,op,ok,L,hsome,hnone⟩:=vV HI3.o.goes.at_.bD k;have SQ:=az hsome;have QS:=az hnone;clear hsome hnone;generalize hs:done.foldl FP.Sl.take ⟨V.g,V.bD,V.gone⟩=st at*;have HYS:Hid (Y.S=st.bD/\Y.D=st.gone):=az ⟨congrArg FP.Ft.bD Vk.o,congrArg FP.Ft.gone Vk.o⟩;have HST:=az hs;clear hs;have HSK:Hid (rH V.c V.g.aC V.g.bad st):=az (by rw[<-HST.o];exact zQ.o done (λx hx=>Lj.o.subset (List.mem_append_left _ hx)));have HYF:Hid Y.Fit:=az (dm.fit_of Vk.o (Fit.sl (Jw.o.now Dt.o) HSK.o))
      go_upto_region 16 with fail;have FBA:Hid (aD (wa.alloc (.cells #[vi ob,vi op] 165)) wa.heap.size 165 #[vi ob,vi op]):=az (aD.new _ _ _);have ab7:Hid (aD (wa.alloc (.cells #[vi ob,vi op] 165)) g9 165 #[vi pb,vi pp]):=az (FB9.o.alloc _);have HI4:=az (HI3.o.old (ak.alloc aj (.cells #[vi ob,vi op] 165)));have wD:Hid (¬Y.foot f wa.heap.size):=az (λe=>by have:=HI3.o.goes.at_.lt _ e;omega);clear HI3 FB9 c5 L;generalize wa.alloc (.cells #[vi ob,vi op] 165)=wb at*;generalize wa.heap.size=ga at*;obtain⟨g1,hg1⟩:∃g1:Mg,(st.take (k,(⟨pb,pp⟩:FP.cB)))=⟨g1,MP.put st.bD k ⟨pb,pp⟩,MP.del st.gone k⟩/\g1=(match MP.get st.bD k with|some old=>(st.g.drop old.block).2|none=>st.g):=⟨_,rfl,rfl⟩
      have Yr:=az hg1.1;have qI:=az hg1.2;clear hg1;have HYG:Hid (Y.G.view=st.g):=az (congrArg FP.Ft.g Vk.o);go_upto_if 71 with fail;go_cut [72] from 57 to 89 (λ_ wx=>Hid (aD wx g9 165 #[vi pb,vi pp])/\∃Z,Hid (zO aA w' f X rr bn (MP.del left k) wx Z/\Z.bn=bn/\Z.view={V with now:=N8,g:=g1,bD:=st.bD,gone:=st.gone}))
      case first =>
       cases ok
       ·have HG2:Hid (g1=st.g):=az (by rw[qI.o,<-HYS.o.1,QS.o rfl]);go_wp2;go_meet;exact⟨ab7,Y,az ⟨HI4.o,HYB.o,by rw[HG2.o];exact Vk.o⟩⟩
       have HG2:Hid (g1=(Y.G.view.drop ob).2):=az (by rw[qI.o,<-HYS.o.1,SQ.o rfl,HYG.o]);go_upto_region 17 with fail;have c1:wb.cell? ⟨f,1,none⟩=some (ptr Y.m):=HI4.o.goes.at_.obj.cell 1;obtain⟨d0,d1,_,_⟩:=bO FBA.o;have HS:Hid (wb.drew.cell? ⟨f,1,none⟩=some (ptr Y.m)/\wb.drew.cell? ⟨ga,0,none⟩=some (vi ob)):=az ⟨c1,d0⟩;have ab8:=az (HI4.o.old au);have OB:=az (Bh ab8.o.goes.at_ HYF.o ob);have nS:Hid (∀W,bJ aA wb.drew Y.m Y.G Y.M W (Y.G.view.drop ob).2 Y.M->(W.cell? ⟨f,1,none⟩=some (ptr Y.m)/\W.cell? ⟨ga,0,none⟩=some (vi ob))) :=
        az (λW q=>⟨(ab8.o.drop q).goes.at_.obj.cell 1,bJ.cells q HS.o.2 (λe=>wD.o (.inr (.inr (.inr (.inr (.inr e))))))⟩)
       go_region_held3 (λw'=>w'.cell? ⟨f,1,none⟩=some (ptr Y.m)/\w'.cell? ⟨ga,0,none⟩=some (vi ob))
        (first|exact HS.o|exact nS.o _ (by assumption))
        (first|(go_at_call 109;refine OB.o.mono ?_;rintro e w3 ⟨rfl,hg3⟩))
       have Wq:=az (ab8.o.drop hg3);have FB5:Hid (aD w3 g9 165 #[vi pb,vi pp]):=az ((ab7.o.old au).aJ hg3.aJ (λe=>ZM.o (.inr (.inr (.inr (.inr (.inr e)))))));go_wp2;go_meet;exact⟨FB5,{Y with G:=Y.G.lay (Y.G.view.drop ob).2},az ⟨Wq.o,HYB.o,by
        rw[HG2.o]
        show ({Y.view with g:=(Y.G.view.drop ob).2}:FP.Ft)=_
        rw[Vk.o]⟩⟩
      case rest =>
      obtain⟨FBX,Z,hcut⟩:=hcut;have Yp:=az hcut.o.1;have Yq:=az hcut.o.2.1;have Vl:=az hcut.o.2.2;have HZS:Hid (Z.S=st.bD/\Z.D=st.gone):=az ⟨congrArg FP.Ft.bD Vl.o,congrArg FP.Ft.gone Vl.o⟩;clear hcut ab7 FBA HI4 wD ZM SQ QS Vk HYS HYF HYB qI HYG;go_upto_region 18 with fail;obtain⟨y0,y1,_,_⟩:=bO FBX.o;have c5:wc.cell? ⟨f,5,none⟩=some (.map (some Z.bs)):=Yp.o.goes.at_.obj.cell 5;have ab9:=az (Yp.o.old au);obtain⟨w5,rG,hm,hgr⟩:=rE ab9.o.goes.at_.bD k pb pp;have Wq:=az (ab9.o.bD hgr hm);have hup:(Instr.mapUpdate 149 (.map (some Z.bs)) (.int .u32 k) (.agg #[vi pb,vi pp])).run prog wc.drew=.ok () w5:=rG.run
      have aca:Z.bs≠g9:=Yp.o.goes.at_.bD.dM FBX.o;have mV:Hid (w5.cell? ⟨f,5,none⟩=some (.map (some Z.bs))/\w5.cell? ⟨g9,0,none⟩=some (vi pb)/\w5.cell? ⟨g9,1,none⟩=some (vi pp)):=az ⟨Wq.o.goes.at_.obj.cell 5,
       (FBX.o.drew.grown hgr (λe=>by injection e with e;exact aca e.symm)).cell 0,(FBX.o.drew.grown hgr (λe=>by injection e with e;exact aca e.symm)).cell 1⟩
      have mZ:Hid (wc.drew.cell? ⟨f,5,none⟩=some (.map (some Z.bs))/\wc.drew.cell? ⟨g9,0,none⟩=some (vi pb)/\wc.drew.cell? ⟨g9,1,none⟩=some (vi pp)):=az ⟨c5,y0,y1⟩;clear rG hm hgr aca;go_region_held3 (λW=>W.cell? ⟨f,5,none⟩=some (.map (some Z.bs))/\W.cell? ⟨g9,0,none⟩=some (vi pb)/\W.cell? ⟨g9,1,none⟩=some (vi pp))
       (first|exact mZ.o|exact mV.o)
       (fail)
      clear hup c5 y0 y1 FBX mZ mV ab9 Yp;obtain⟨w6,hdel,hm6,ae6⟩:=xH Wq.o.goes.at_.gone k;have vQ:=az hdel;have HI6:=az (Wq.o.gone Yq.o.symm ae6 hm6);have c7:w5.cell? ⟨f,7,none⟩=some (.map (some Z.bg)):=Wq.o.goes.at_.obj.cell 7;clear hdel hm6 ae6;go_wp2_with (at_delete;refine eu rfl (.tmp 88) (.tmp 89) rfl rfl rfl (vQ.o.run _) ?_);go_roundg (MP.del left k).length
      case measure=>omega
      case rel=>exact⟨done++[(k,⟨pb,pp⟩)],MP.del left k,_,aj,az ⟨HI6.o,Yq.o,by
       rw[List.foldl_append,HST.o]
       show _=({V with now:=N8,g:=(st.take (k,⟨pb,pp⟩)).g,bD:=(st.take (k,⟨pb,pp⟩)).bD,gone:=(st.take (k,⟨pb,pp⟩)).gone}:FP.Ft)
       rw[Yr.o]
       show ({Z.view with bD:=MP.put Z.S k ⟨pb,pp⟩,gone:=MP.del Z.D k}:FP.Ft)=_
       rw[Vl.o,HZS.o.1,HZS.o.2],by
       rw[adM]
       exact(ab6.o.symm.append_left done).trans Lj.o⟩⟩
   have HQ:Hid _:=az ((if_pos rfl).symm.trans HQ.o);have HG:=az (aQ.aX H.o pI.o);go_wp2;go_ret;exact dY.mk (by have:=HQ.o;cases this;rfl) HG.o rfl
  have HQ:Hid _:=az ((if_pos hS).symm.trans HQ.o);have hS':((b.length:Int) != (X.M.S:Int)-8)=true:=by simp;omega
  have HG:=az (aQ.aX H.o HB3.o);clear hS;go_wp2;go_ret;exact dY.mk (by have:=HQ.o;cases this;rfl) HG.o rfl
 have HQ:Hid _:=az ((if_pos h0).symm.trans HQ.o);have HG:=az (aQ.refl H.o);go_wp2;go_ret;exact dY.mk (by have:=HQ.o;cases this;rfl) HG.o rfl
end ft
namespace us
open RowKit mgr ft po nd
attribute [local go_sem] agh
def eY {w0 W W':acL}{F:Nat->Prop}(h:acN w0.heap.size w0 W)(q:aP F W W')(h0:∀n,F n->w0.heap.size<=n):acN w0.heap.size w0 W' :=
 ⟨q.os.trans h.os,q.tape.trans h.tape,q.output.trans h.output,abX h.size q.size,λk hk=>(q.block k (adN hk h.size) (λe=>by have:=h0 k e;omega)).trans (h.block k hk)⟩
def uZ {w':acL}{v0:acK}(tmps:Array acK)(h2:tmps[4]?=some v0):(results Tryz.f104 tmps).run prog w'=.ok v0 w':=by
 simp only[results,results104];simp[go_sem,h2]
variable{w:acL}
def Gx {gf:Nat}{lb:Array acK}{N:Nat}{S:List Nat->Prop}(hN:N<=900000)(eg:∀args w,(callFunc gf args).run prog w=.ok (.enter gf args) w)(hg:Gives gf lb N S w) :
  ac4 prog 104 #[aco none 0 0,.func (.func gf) #[] lb] w λe w'=>∃v ss,e=ab4 v/\S ss/\gB w' w.heap.size v ss/\acN w.heap.size w w':=by
 have HG:=az hg;clear hg;refine agn.1 (callsIn_of_wp_marks (F:=agb) (n:=6) func104 rfl trivial (wpIn_wide.2 ?_) rfl);simp only[ntmps104,af7,adV,afO,agi,agj,af8,af9,agd,aga,afl,age];go_upto_region 1 with fail;have HB1:Hid (acN w.heap.size w (w.alloc (ach #[aco none 0 0] 123))):=az ax;have lD:=az (aD.new w 123 #[aco none 0 0]);have fV:Hid ((w.alloc (ach #[aco none 0 0] 123)).heap.size=w.heap.size+1):=az ai
 obtain⟨x,hx⟩:∃x,x=w.heap.size:=⟨_,rfl⟩;rw[<-hx]at lD ⊢;have HX:=az hx;clear hx;change Code.wp _ _ _ _ (w.alloc (ach #[aco none 0 0] 123));generalize w.alloc (ach #[aco none 0 0] 123)=w1 at*;go_wp2_with fail;refine(wpIn_wide (n:=6)).1 ?_;refine ic (n:=6) aa (gf:=gf) (lb:=lb) rfl eg (λW=>∃v ss,S ss/\aD W x 123 #[v]/\gB W w.heap.size v ss/\acN w.heap.size w W) ?hc ?hd
 case hc =>
  intro fn;generalize hro:Obj.loop (ja fn _ _ _ _ _ _ _)=ro at*;have hb4:acN w1.heap.size w1 ((w1.alloc (adL (some []))).alloc ro):=ax.alloc ai _;have hl4:((w1.alloc (adL (some []))).alloc ro).heap[w1.heap.size+1]?=some ro:=by
   have h:=agf (w1.alloc (adL (some []))) ro;rwa[acL.size_alloc]at h
  have hd4:((w1.alloc (adL (some []))).alloc ro).heap[w1.heap.size]?=some (adL (some [])):=(acN.heap_alloc _ _ _ ai).trans (agf w1 _);have hsz:=fV.o;have AV:=HX.o;have FI:Vu w x (w1.heap.size+1) w1.heap.size ro (λn=>n=x\/n=w1.heap.size+1\/n=w1.heap.size\/(aco none 0 0).ownBlock=some n) [] ((w1.alloc (adL (some []))).alloc ro) :=
   ⟨HB1.o.trans (hb4.mono HB1.o.size),⟨aco none 0 0,lD.o.old hb4,acL.ownsRow_nil _ _ _ _,λ_=>Iff.rfl⟩,hl4,hd4⟩
  refine(HG.o (w1.heap.size+1) (Vu w x (w1.heap.size+1) w1.heap.size ro) _ _ FI.below (λK ss W h=>Ct ⟨aa,aa,aa⟩ h) (λK ss W W' F h=>Gw h) ?_ FI).mono ?_
  ·clear FI hl4 hd4 hb4;intro K ss n W hJ hlen;have HJ:=az hJ;subst hro;refine rY hJ.lJ rfl rfl rfl ?_;obtain⟨v,h1,h2,h3⟩:=hJ.box;have HL:=az hJ.lJ;have HD:=az hJ.nW;have FU:Hid (x≠w1.heap.size+1/\x≠w1.heap.size):=az aa;have ig:Hid (w1.heap.size+1<W.heap.size/\w.heap.size<=W.heap.size):=az ⟨(aaz.1 hJ.lJ).1,hJ.below.size⟩;have ZF:=az h1;have Jr:=az h2;have CV:=az h3;have HLEN:Hid (ss.length+1<=1000000):=az aa;clear hJ h1 h2 h3 hlen hsz AV;unfold ja at HL ⊢;dsimp only at HL ⊢;gi_wp2;refine⟨HL.o,?_⟩;have GQ:Hid (∀g,v.ownBlock=some g->g≠w1.heap.size):=az (λg e e2=>by
    obtain⟨_,_,cur,hb⟩:=Jr.o.lt e
    have h1:=HD.o
    rw[<-e2]at h1
    unfold aD at hb
    rw[hb]at h1
    cases h1)
   have HNV:Hid (∀g,v.ownBlock=some g->g≠w1.heap.size+1):=az (λg e e2=>by
    obtain⟨_,_,cur,hb⟩:=Jr.o.lt e
    have h1:=HL.o
    rw[<-e2]at h1
    unfold aD at hb
    rw[hb]at h1
    cases h1)
   generalize Dx:Obj.loop {state:=LoopState.busy,pending:=none,fn:=fn,tmps:=_,params:=_,assign:=_,body:=_,defers:=_}=ob;generalize hor:Obj.loop {state:=LoopState.ready,pending:=none,fn:=fn,tmps:=_,params:=_,assign:=_,body:=_,defers:=_}=od at*;have HB2:Hid (aD (W.putObj (w1.heap.size+1) ob) x 123 #[v]):=az ((af4 FU.o.1).trans ZF.o);have yK:Hid ((W.putObj (w1.heap.size+1) ob).heap[w1.heap.size+1]?=some ob):=az (agc ig.o.1);have yx:Hid (aP (λm=>m=w1.heap.size+1) W (W.putObj (w1.heap.size+1) ob)):=az ⟨rfl,rfl,rfl,by simp[af6],λm hm e=>af4 (λe2=>e e2)⟩
   have II:Hid (gB (W.putObj (w1.heap.size+1) ob) w.heap.size v ss):=az (Jr.o.aJ yx.o (λg e e2=>HNV.o g e e2));have jS:Hid ((W.putObj (w1.heap.size+1) ob).heap.size=W.heap.size):=az (by simp[af6]);have HTY:Hid (∀cs t z,ob≠ ach cs t z):=az (λcs t z e=>by rw[<-Dx]at e;cases e);clear Dx;generalize W.putObj (w1.heap.size+1) ob=W1 at*;have Vv:=az (LU II.o n (by have:=HLEN.o;omega) (by have:=jS.o;have:=ig.o;omega));obtain⟨v',w5,hrun,jT,hg5,Vw⟩:=Vv.o;obtain⟨a5,n5,c5,hv5⟩:=jT.form;subst hv5;have RA:=az hrun;have hbl:acN W1.heap.size W1 (W1.alloc (ach #[vw n] 118)):=ax
   have JX:aD w5 x 123 #[v]:=(HB2.o.alloc _).grown hg5 (bU II.o HB2.o ag);have RN:Hid (w5.heap[w1.heap.size+1]?=some ob):=az ((hg5.block _ (by have:=jS.o;have:=ig.o;simp;omega) (λe=>HNV.o _ e.symm rfl)).trans ((hbl.block _ (by have:=jS.o;have:=ig.o;omega)).trans yK.o));have HD5:Hid (w5.heap[w1.heap.size]?=some (adL (some []))):=az ((hg5.block _ (by have:=jS.o;have:=ig.o;simp;omega) (λe=>GQ.o _ e.symm rfl)).trans ((hbl.block _ (by have:=jS.o;have:=ig.o;omega)).trans ((yx.o.block _ (by have:=ig.o;omega) aa).trans HD.o)));have P9:Hid (aP K W w5):=az ((yx.o.mono (λm _ e=>(CV.o m).2 (acm (ack e)))).trans ((aP.of_below (F:=K) hbl).grown hg5 (λr e=>ack ((CV.o r).2 (acm (acm (acm e)))))) (λ_ _ e=>e))
   have Bl:=az JX;have Dk:=az jT;have ql:=az Vw;have y0:W1.cell? ⟨x,0,none⟩=some v:=HB2.o.cell 0;have z0:=JX.frozen 0;have z1:=JX.cell 0;clear hrun jT hg5 Vw JX hbl Vv;gi_wp2_with (gi_at_builtin;refine lS rfl (.tmp 8) (.tmp 10) rfl rfl rfl RA.o.run ?_);have YB:aP (λm=>m=x) w5 (w5.setCell ⟨x,0,none⟩ (aco a5 n5 c5)):=aP.set (F:=λm=>m=x) w5 (p:=⟨x,0,none⟩) rfl _;have hL6:(w5.setCell ⟨x,0,none⟩ (aco a5 n5 c5)).heap[w1.heap.size+1]?=some ob:=(YB.block _ (aaz.1 RN.o).1 (λe=>FU.o.1 e.symm)).trans RN.o;have hD6:(w5.setCell ⟨x,0,none⟩ (aco a5 n5 c5)).heap[w1.heap.size]?=some (adL (some [])):=(YB.block _ (aaz.1 HD5.o).1 (λe=>FU.o.2 e.symm)).trans HD5.o
   have hU6:gB (w5.setCell ⟨x,0,none⟩ (aco a5 n5 c5)) w.heap.size (aco a5 n5 c5) (ss++[n]):=Dk.o.aJ YB (λg e e2=>by
    obtain⟨_,_,cur,hb⟩:=Dk.o.lt e
    rw[e2]at hb
    have:=bY hb Bl.o
    revert this
    decide)
   have hB6:aD (w5.setCell ⟨x,0,none⟩ (aco a5 n5 c5)) x 123 #[aco a5 n5 c5]:=Bl.o.bB 0 _;have hC:=P9.o.trans YB (λm _ e=>(CV.o m).2 (ack e));clear y0 z0 z1 RA;generalize w5.setCell ⟨x,0,none⟩ (aco a5 n5 c5)=w6 at*;have YC:aP (λm=>m=w1.heap.size+1) w6 (w6.putObj (w1.heap.size+1) od):=⟨rfl,rfl,rfl,by simp[af6],λm hm e=>af4 (λe2=>e e2)⟩;have hC8:aP K W (w6.putObj (w1.heap.size+1) od):=hC.trans YC (λm _ e=>(CV.o m).2 (acm (ack e)));refine⟨hL6,λm=>m=x\/m=w1.heap.size+1\/m=w1.heap.size\/(aco a5 n5 c5).ownBlock=some m,⟨eY HJ.o.below hC8 (λm e=>(Ct ⟨by have:=HX.o;omega,by have:=HX.o;have:=fV.o;omega,by have:=HX.o;have:=fV.o;omega⟩ HJ.o m e).2),⟨_,?_,?_,λ_=>Iff.rfl⟩,?_,?_⟩,hC8,λm e=>?_⟩
   exact hB6.aJ YC (by have:=FU.o;omega);refine hU6.aJ YC (λg e e2=>?_);obtain⟨_,_,cur,hb⟩:=hU6.lt e;have h1:=HTY.o;rw[e2]at hb;unfold aD at hb;rw[hb]at hL6;injection hL6 with hL6;rw[<-hL6]at h1;exact h1 _ _ _ rfl;exact agc (aaz.1 hL6).1;exact(YC.block _ (aaz.1 hD6).1 aa).trans hD6;rcases e with e|e|e|e;exact ack ((CV.o m).2 (ack e));exact ack ((CV.o m).2 (acm (ack e)));exact ack ((CV.o m).2 (acm (acm (ack e))));rcases ql.o with e2|e2;exact ack ((CV.o m).2 (acm (acm (acm (by rw[<-e2];exact e)))))
   rw[e2]at e;injection e with e;exact acm (by have:=jS.o;omega)
  rintro e W ⟨⟨v,rfl⟩,K',ss,hS,hJ⟩;obtain⟨v2,h1,h2,h3⟩:=hJ.box;exact⟨⟨_,rfl⟩,hJ.lJ,hJ.nW,v2,ss,hS,h1,h2,hJ.below⟩
 case hd =>
  intro W o r hR hD hl;obtain⟨v,ss,hS,h1,h2,h3⟩:=hR;have hC:aP (λm=>m=w1.heap.size+1) W (W.putObj (w1.heap.size+1) o):=⟨rfl,rfl,rfl,by simp[af6],λm hm e=>af4 (λe2=>e e2)⟩;have hne:x≠w1.heap.size+1:=by have:=HX.o;have:=fV.o;omega
  have HB:=az (h1.aJ hC hne);have HU:=az (h2.aJ hC (λg e e2=>by
   obtain⟨_,_,cur,hb⟩:=h2.lt e
   rw[e2]at hb
   unfold aD at hb
   rw[hb]at hl
   cases hl))
  have HD:=az ((hC.block w1.heap.size (aaz.1 hD).1 aa).trans hD);have lK:=az (eY h3 hC (λm e=>by rw[e];have:=HB1.o.size;omega));have DC:=az hS;clear h1 h2 h3 hS hD hl hC;dsimp only;generalize W.putObj (w1.heap.size+1) o=W2 at*;have y0:W2.cell? ⟨x,0,none⟩=some v:=HB.o.cell 0;go_wp2_with fail;refine di.ji (v:=v) HD.o (uZ _ rfl) ⟨v,ss,rfl,DC.o,?_,?_⟩;refine HU.o.aJ (F:=λm=>m=w1.heap.size) ⟨rfl,rfl,rfl,by simp[af6],λm hm e=>af4 (λe2=>e e2)⟩ (λg e e2=>?_);obtain⟨_,_,cur,hb⟩:=HU.o.lt e
  have h1:=HD.o;rw[e2]at hb;unfold aD at hb;rw[hb]at h1;cases h1;exact eY lK.o (F:=λm=>m=w1.heap.size) ⟨rfl,rfl,rfl,by simp[af6],λm hm e=>af4 (λe2=>e e2)⟩ (λm e=>by rw[e];have:=HB1.o.size;omega)
end us
namespace us
open RowKit Go.Sort mgr ft po nd
def ahF (n:Nat)(G:Nat->Nat){i j:Nat}(hi:i<n)(hj:j<n):((ac9 n).map (swp G i j)).Perm ((ac9 n).map G):=by
 have h1:((ac9 n).map G).toArray.swap i j (by simpa using hi) (by simpa using hj)=((ac9 n).map (swp G i j)).toArray:=by
  apply Array.ext;simp;intro k h1 h2;simp only[Array.size_swap,af7,abT,List.length_range]at h1;rw[Array.getElem_swap];simp only[List.getElem_toArray,List.getElem_map,List.getElem_range];unfold swp;by_cases e1:k=i;subst e1;by_cases e2:k=j;simp[e2];simp[e2];by_cases e2:k=j;simp[e2];intro e3;omega;simp[e1,e2]
 have h2:=Array.swap_perm (xs:=((ac9 n).map G).toArray) (i:=i) (j:=j) (by simpa using hi) (by simpa using hj);rw[h1]at h2;exact Array.perm_iff_toList_perm.1 h2
def Sw.perm {n:Nat}{G G':Nat->Nat}(h:Sw n G G'):((ac9 n).map G').Perm ((ac9 n).map G):=by
 induction h with
 |refl=>exact aiF _
 |step _ hi hj ih=>exact(ahF n _ hi hj).trans ih
def NM (n:Nat)(hn:n<1000000)(w:acL):ac4 prog 127 #[.int .u64 n] w λe w'=>∃k:Nat,k<1000000/\e=ab4 (vi k)/\w'=w:=by
 refine(calls_of_every_depth λD=>AnyS.bits_LenIn laysLen D (n:Int) w aa aa).mono ?_;rintro e w' ⟨rfl,rfl⟩;refine⟨Lib.bitLen n,?_,by rw[Int.toNat_natCast],rfl⟩;have:bitsLen n<=62:=(bitsLen_le_iff n 62).2 aa;rw[bitLen_eq _ aa];omega
variable{w:acL}
def YD:ac4 prog 184 #[aco none 0 0,vi 0,vi 0] w λe w'=>e=ab4 (adg #[])/\w'=w:=by
 go_in;go_wp2_with fail;go_loopg [6] 0 (λk v6 wr=>v6=vi 1/\wr=w)
 case atStart=>exact⟨rfl,rfl⟩
 case round =>
  obtain⟨rfl,rfl⟩:=hrel;go_wp2_with fail;go_end0;exact⟨rfl,rfl⟩
def YE (k:Nat)(hk:k<1000000):ac4 prog 165 #[aco none 0 0,vi 0,vi 0,vi k] w λe w'=>e=ab4 (adg #[])/\w'=w:=by
 go_in;go_wp2_with fail;go_loopg [1,2,3,8,9] 0 (λ_ v1 v2 v3 v8 v9 wr=>v1=vi 0/\v2=vi 0/\v3=vi k/\v8=acg true/\v9=acg true/\wr=w)
 case atStart=>exact⟨rfl,rfl,rfl,rfl,rfl,rfl⟩
 case round =>
  obtain⟨rfl,rfl,rfl,rfl,rfl,rfl⟩:=hrel;go_wp2_with (go_at_call 184;refine(YD).mono ?_;rintro e w2 ⟨rfl,rfl⟩);refine ac5 (results_none rfl _ _ _) rfl ?_;exact⟨rfl,rfl⟩
def gB.ur {b0 g cap:Nat}{l:List Nat}(h:gB w b0 (aco (some ⟨g,0,none⟩) l.length cap) l):UR w g l.length (λt=>l.getD t 0):=by
 rcases h.2 with⟨e,_⟩|⟨g',cap',cur,e,hb,hh,hn,hc,hs,ht⟩;cases e;injection e with e1 e2 e3;injection e1 with e1;injection e1 with e1;subst e1;refine⟨cur,hh,λt h=>?_⟩;have h1:(cur.toList.take (l.length*1))[t]?=some (vw (l.getD t 0)):=by
  rw[ht,aeX,aaj h];simp[afh,h]
 rw[List.getElem?_take]at h1;split at h1;rw[<-Array.getElem?_toList];exact h1;cases h1
def LV (l:List Nat):(ac9 l.length).map (λt=>l.getD t 0)=l:=by
 apply List.ext_getElem?;intro t;rw[aeX];by_cases h:t<l.length;rw[List.getElem?_range h,aaj h];simp[afh,h];rw[ac7 (by simpa using h),ac7 aa];rfl
def Vy {b0:Nat}{v:acK}{l:List Nat}(h:gB w b0 v l)(hl:l.length<1000000) :
  ac4 prog 138 #[v] w λe w'=>e=ab4 (adg #[])/\∃l',l'.Perm l/\gB w' b0 v l'/\aP (λm=>v.ownBlock=some m) w w':=by
 have hw:acS.u64.wrap (l.length:Int)=l.length:=by simp[acS.wrap,acS.bits,acS.signed];omega
 have h':=h;rcases h.2 with⟨rfl,h0⟩|⟨g,cap,cur,rfl,hb,hh,hn,hc,hs,ht⟩
 ·have hn:l=[]:=List.eq_nil_of_length_eq_zero h0;subst hn;clear h hw;have HU:=az h';clear h';go_in;go_wp2_with (first|(go_at_call 127;refine(NM 0 aa _).mono ?_;rintro e w2 ⟨k,hk,rfl,rfl⟩)|(go_at_call 165;refine(YE k hk).mono ?_;rintro e w2 ⟨rfl,rfl⟩));go_end0;exact⟨rfl,[],aiF _,HU.o,aP.refl _ _⟩
 have HUR:=az h'.ur;have HB:Hid (b0<=g/\aD w g 118 cur/\l.length<=cap/\cap<=maxLen/\cur.size=cap*1):=az ⟨hb,hh,hn,hc,hs⟩;clear h h' ht hb hh hn hc hs;obtain⟨z,hz⟩:∃z,l.length=z:=⟨_,rfl⟩;rw[hz]at hw hl HUR;have HZ:=az hz;rw[hz];clear hz;go_in;go_wp2_with (first|(go_at_call 127;refine(NM z hl _).mono ?_;rintro e w2 ⟨k,hk,rfl,rfl⟩)|(go_at_call 165;refine(Yz cap hl (z+1) 0 z k _ _ aa aa aa hk HUR.o).mono ?_;rintro e w2 ⟨rfl,G2,h2⟩;have II:=az h2;clear h2));go_end0;have hp:=II.o.sw.perm;have hz:=HZ.o;refine⟨rfl,(ac9 z).map G2,by rw[<-hz]at hp ⊢;rwa[LV]at hp,⟨ai,acm ?_⟩,II.o.aJ.mono (λm _ e=>by rw[e];rfl)⟩
 obtain⟨cs,c1,c2⟩:=II.o.row;have hsz:=II.o.siz _ _ HB.o.2.1 c1;refine⟨g,cap,cs,ai,HB.o.1,c1,by simpa[hz] using HB.o.2.2.1,HB.o.2.2.2.1,hsz.trans HB.o.2.2.2.2,?_⟩;apply List.ext_getElem?;intro t;simp only[abT,List.length_range,Nat.mul_one];rw[List.getElem?_take,aeX];by_cases ht:t<z;rw[if_pos ht,aeX,List.getElem?_range ht,Array.getElem?_toList,c2 t ht];rfl;rw[if_neg ht,ac7 (by simpa using ht)];rfl
variable{lb:Array acK}{N:Nat}{S:List Nat->Prop}
def wO {gf:Nat}(hN:N<=900000)(eg:∀args w,(callFunc gf args).run prog w=.ok (.enter gf args) w)(hg:Gives gf lb N S w) :
  ac4 prog 70 #[.func (.func gf) #[] lb] w λe w'=>∃v ss,e=ab4 v/\S ss/\gB w' w.heap.size v ss/\acN w.heap.size w w':=by
 have HG:=az hg;clear hg;go_in;go_wp2_with (go_at_call 104;refine(Gx hN eg HG.o).mono ?_;rintro e w2 ⟨v,ss,rfl,hS,h1,h2⟩;have H1:=az h1;have H2:=az h2;have HS:=az hS;clear h1 h2 hS);go_ret;exact⟨v,ss,rfl,HS.o,H1.o,H2.o⟩
attribute [local go_sem] agh
section
variable{F:Fence}{nF:Nat}{P:Program}{w':acL}{ops:Array Oper}{rest:List Oper}{o:Oper}{a:Act}{Q:Exit->Act->acL->Prop}
def jm (hgd:o.guard=none)(m:Operand){t:TypeId}(ho:o.op=Op.range t m){mv v:acK}(hm:a.eval m=mv)(hrun:(Instr.range t mv).run P w=.ok v w')(h:wpListIn F nF P ops Q rest (a.put o.dst v) w'):wpListIn F nF P ops Q (o::rest) a w:=by
 refine wpListIn_plain hgd λK hK=>?_
 unfold Oper.wpIn;refine⟨by simp[Oper.about,ho],?_⟩;rw[Oper.semAt_plain F _ _ (by rw[ho];intro c hc';cases hc')];simp[execOp,ho,hm,hrun,Result.andThen];exact hK _ _ h
def eD (hgd:o.guard=none)(it:Operand)(ho:o.op=Op.next it false){iv v:acK}(hi:a.eval it=iv)(hrun:(Instr.next iv false o.type).run P w=.ok v w')(h:wpListIn F nF P ops Q rest (a.put o.dst v) w'):wpListIn F nF P ops Q (o::rest) a w:=by
 refine wpListIn_plain hgd λK hK=>?_
 unfold Oper.wpIn;refine⟨by simp[Oper.about,ho],?_⟩;rw[Oper.semAt_plain F _ _ (by rw[ho];intro c hc';cases hc')];simp[execOp,ho,hi,hrun,Result.andThen];exact hK _ _ h
end
def ve {gf:Nat}(hN:N<=900000)(hS:∀ss,S ss->ss.length<1000000)(eg:∀args w,(callFunc gf args).run prog w=.ok (.enter gf args) w)(hg:Gives gf lb N S w) :
  ac4 prog 107 #[.func (.func gf) #[] lb] w λe w'=>∃v ss l',e=ab4 v/\S ss/\l'.Perm ss/\gB w' w.heap.size v l'/\acN w.heap.size w w':=by
 have HG:=az hg;have HN:=az hS;clear hg hS;go_in;go_upto_region 2 with (go_at_call 70;refine(wO hN eg HG.o).mono ?_;rintro e w2 ⟨v,ss,rfl,hS,h1,h2⟩;have H1:=az h1;have H2:=az h2;have HS:=az hS;clear h1 h2 hS);obtain⟨a,n,c,hv⟩:=H1.o.form;subst hv;go_wp2_with (go_at_call 138;refine(Vy H1.o (HN.o _ HS.o)).mono ?_;rintro e w3 ⟨rfl,l',hp,h1,h2⟩;have H3:=az h1;have H4:=az h2;have HP:=az hp;clear h1 h2 hp);go_ret;exact⟨_,ss,l',rfl,HS.o,HP.o,H3.o,eY H2.o H4.o (λm e=>(H1.o.lt e).2.1)⟩
def Cu (b:Nat):ac4 prog 108 #[.map (some b)] w λe w'=>e=ab4 (.func (.func 139) #[] #[ptr w.heap.size])/\w'=w.alloc (ach #[.map (some b)] 149):=by
 go_in;go_wp2;go_ret;exact⟨ai,rfl⟩
def keys_gives {b bx:Nat}{M:Mp FP.cB}(hm:bz w b .u32 dz M)(hbx:aD w bx 149 #[.map (some b)])(hk:∀x∈M,0<=x.1)(hN:M.length<=N) :
  Gives 139 #[ptr bx] N (λss=>(ss.map λn:Nat=>(n:Int)).Perm (M.map af5)) w:=by
 intro l J K W hW hlt hA hY h0;have hbl:=hm.lt;have hmW:bz W b .u32 dz M:=hm.of_heap (hW.block b hbl);have c0:W.cell? ⟨bx,0,none⟩=some (.map (some b)):=(hbx.below hW hbx.lt).cell 0;obtain⟨w1,hrun,hit,hb1,_⟩:=hmW.range (P:=prog) underlying149;have Da:Hid (xk 149 (.map (some b)) (.pointer (some ⟨W.heap.size,0,none⟩)) W w1):=az ⟨hrun⟩;have hJ1:J K [] w1:=hA K [] W w1 (λ_=>False) h0 (aP.of_below hb1) (λ_ e=>e.elim) (λ_ e=>e.elim);have ig:=az hlt;have HA:=az hA;have HY:=az hY;have HK:=az hk;have HN:=az hN;have HWS:=az hW.size;have lK:=az hbl;have zi:Hid (J K [] w1/\gL w1 W.heap.size b .u32 dz M/\(([]:List Nat).map (λn:Nat=>(n:Int))++M.map af5).Perm (M.map af5)/\([]:List Nat).length+M.length=M.length/\¬K W.heap.size) :=
  az ⟨hJ1,hit,aiF _,ai,λe=>by have:=(hlt _ _ _ h0 _ e).1;omega⟩
 clear hlt hA hY hk hN hW hbl hm hbx h0 hrun hit hb1 hJ1 hmW;refine agn.1 (callsIn_of_wp (F:=agb) (n:=5) func139 rfl trivial ?_ rfl);simp only[ntmps139,af7,adV,afO,agi,agj,af8,af9,agd,aga,afl,age];gi_wp2_with (gi_at_range;refine jm rfl (.tmp 4) rfl rfl Da.o.run ?_);go_frame;clear Da c0;generalize W.heap.size=r at*;gi_loopg [3] M.length (λk _ wr=>∃(K:Nat->Prop) (ss:List Nat) (left:Mp FP.cB),left.length<=k/\Hid (J K ss wr/\gL wr r b .u32 dz left/\(ss.map (λn:Nat=>(n:Int))++left.map af5).Perm (M.map af5)/\ss.length+left.length=M.length/\¬K r))
 case atStart=>exact⟨K,[],M,aj,zi⟩
 case round =>
  clear zi;obtain⟨K,ss,left,hlk,hrd⟩:=hrel;have bK:=az hrd.o;clear hrd;rcases bK.o.2.1.next (P:=prog) with⟨hnil,hnx⟩|⟨⟨kk,pb,pp⟩,w2,hmem,hnx,hit2,hc2,hs2,hen⟩
  ·have iH:Hid (kZ (.pointer (some ⟨r,0,none⟩)) (.tuple #[.bool false]) wr wr):=az ⟨hnx⟩;have HP:=az bK.o.2.2.1;subst hnil;clear hnx;gi_wp2_with (gi_at_next;refine eD rfl (.tmp 5) rfl rfl (iH.o.run _) ?_);go_end0;exact⟨⟨_,rfl⟩,K,ss,by simpa using HP.o,bK.o.1⟩
  have hkk:0<=kk:=by
   have h1:kk∈M.map af5:=bK.o.2.2.1.subset (List.mem_append_right _ (aay.2 ⟨_,hmem,rfl⟩));obtain⟨y,hy,e⟩:=aay.1 h1;rw[<-e];exact HK.o y hy
  obtain⟨n,rfl⟩:∃n:Nat,kk=n:=⟨kk.toNat,aa⟩;have hok:MP.Ok left:=by obtain⟨_,_,_,_,_,_,_,_,_,_,_,_,hok⟩:=bK.o.2.1;exact hok
  have hdl:(MP.del left n).length+1=left.length:=MP.o8 (MP.dR hok hmem);have hpd:=MP.fO (MP.dR hok hmem);have hrl:=bK.o.2.1.lt.1;have iH:Hid (kZ (.pointer (some ⟨r,0,none⟩)) (.tuple #[.bool true,.int .u32 n,.agg #[vi pb,vi pp]]) wr w2):=az ⟨hnx⟩;have hJ2:J K ss w2:=HA.o K ss wr w2 (λm=>m=r) bK.o.1 hc2 (λm e e2=>bK.o.2.2.2.2 (by rw[<-e];exact e2)) (λm e=>by have:=HWS.o;omega);obtain⟨fn,tmps,assign,body,hy,hR⟩:=HY.o K ss n w2 hJ2 (by have:=bK.o.2.2.2.1;have:=HN.o;omega);have HR:=az hR;have ace:Hid (∀K':Nat->Prop,(∀m,K' m->K m\/w2.heap.size<=m)->¬K' r):=az (λK' h e=>by
   rcases h r e with e2|e2
   exact bK.o.2.2.2.2 e2
   omega)
  have HIT:Hid (gL w2 r b .u32 dz (MP.del left n)/\¬K r/\¬K b):=az ⟨hit2,bK.o.2.2.2.2,λe=>by have:=(ig.o _ _ _ hJ2 _ e).2;have:=lK.o;omega⟩;have AR:Hid (((ss++[n]).map (λn:Nat=>(n:Int))++(MP.del left n).map af5).Perm (M.map af5)):=az (by
   refine List.Perm.trans ?_ bK.o.2.2.1
   rw[List.map_append,adM]
   refine List.Perm.append_left _ ?_
   have:=hpd.symm.map af5
   simpa using this)
  have Kj:Hid ((ss++[n]).length+(MP.del left n).length=M.length):=az (by have:=bK.o.2.2.2.1;rw[List.length_append];simp;omega);clear hnx hit2 hc2 hR hJ2 hmem hpd hok hkk;gi_wp2_with (gi_at_next;refine eD rfl (.tmp 5) rfl rfl (iH.o.run _) ?_);refine HR.o.mono ?_;rintro e W4 ⟨rfl,K',Tm,YF,hsub⟩;have Vz:Hid (J K' (ss++[n]) W4/\gL W4 r b .u32 dz (MP.del left n)/\((ss++[n]).map (λn:Nat=>(n:Int))++(MP.del left n).map af5).Perm (M.map af5)/\(ss++[n]).length+(MP.del left n).length=M.length/\¬K' r) :=
   az ⟨Tm,HIT.o.1.aJ YF HIT.o.2.2 HIT.o.2.1,AR.o,Kj.o,ace.o K' hsub⟩
  clear Tm YF hsub hy;gi_wp2;gi_roundg (MP.del left n).length
  case measure=>omega
  case rel=>exact⟨K',ss++[n],MP.del left n,aj,Vz⟩
end us
namespace us
open RowKit Go.Sort mgr ft po nd
def Qh (l:Mp FP.cB)(n:Int):Bool:=l.any λx=>x.1==n
def zW {m:Mp FP.cB}(n:Int):Qh m n=MP.has m n:=by
 unfold Qh MP.has;cases hg:MP.get m n with
 |some p =>
  have:=MP.get_mem hg;simp only[Option.isSome_some];exact List.any_eq_true.2 ⟨_,this,ai⟩
 |none =>
  rw[MP.get_none]at hg;simp only[Option.isSome_none];rw[List.any_eq_false];intro x hx e;exact hg x hx (by simpa using e)
def VA {l l':Mp FP.cB}(h:l.Perm l')(n:Int):Qh l n=Qh l' n:=by
 unfold Qh;rw[Bool.eq_iff_iff,List.any_eq_true,List.any_eq_true];exact⟨λ⟨x,hx,e⟩=>⟨x,h.subset hx,e⟩,λ⟨x,hx,e⟩=>⟨x,h.symm.subset hx,e⟩⟩
def afj (w:acL)(bd:Nat)(M1 M2:Mp FP.cB)(e:ah8)(w':acL):Prop :=
 e=ab4 (adg #[])/\∃M3,bz w' bd .u32 dz M3/\(∀n,MP.has M3 n=(MP.has M1 n||MP.has M2 n))/\aP (λm=>m=bd) w w'
variable{w:acL}
def JE {bd bs:Nat}{M1 M2:Mp FP.cB}(hd:bz w bd .u32 dz M1)(hs:bz w bs .u32 dz M2)(hne:bd≠bs) :
  ac4 prog 106 #[.map (some bd),.map (some bs)] w (afj w bd M1 M2):=by
 obtain⟨w1,hrun,hit,hb1,_⟩:=hs.range (P:=prog) underlying149;have Da:Hid (xk 149 (.map (some bs)) (.pointer (some ⟨w.heap.size,0,none⟩)) w w1):=az ⟨hrun⟩;have zi:Hid (bz w1 bd .u32 dz M1/\gL w1 w.heap.size bs .u32 dz M2/\aP (λm=>m=bd) w w1/\(∀n,(MP.has M1 n||Qh M2 n)=(MP.has M1 n||MP.has M2 n))) :=
  az ⟨hd.old hb1,hit,aP.of_below hb1,λn=>by rw[zW]⟩
 have zx:=az hne;have ig:Hid (bd<w.heap.size):=az hd.lt;clear hd hs hrun hit hb1 hne;go_in;go_wp2_with (at_range;refine iq rfl (.tmp 6) rfl rfl Da.o.run ?_);go_frame;clear Da;obtain⟨r,hr⟩:∃r,w.heap.size=r:=⟨_,rfl⟩;rw[hr]at zi ig ⊢;have HRR:=az hr;clear hr;go_loopg [4,5] M2.length (λk _ _ wr=>∃(M left:Mp FP.cB),left.length<=k/\Hid (bz wr bd .u32 dz M/\gL wr r bs .u32 dz left/\aP (λm=>m=bd) w wr/\(∀n,(MP.has M n||Qh left n)=(MP.has M1 n||MP.has M2 n))))
 case atStart=>exact⟨M1,M2,aj,zi⟩
 case round =>
  clear zi;obtain⟨M,left,hlk,hrd⟩:=hrel;have bK:=az hrd.o;clear hrd;rcases bK.o.2.1.next (P:=prog) with⟨hnil,hnx⟩|⟨⟨kk,pb,pp⟩,w2,hmem,hnx,hit2,hc2,hs2,hen⟩
  ·have iH:Hid (kZ (.pointer (some ⟨r,0,none⟩)) (.tuple #[.bool false]) wr wr):=az ⟨hnx⟩;have HE:Hid (∀n,MP.has M n=(MP.has M1 n||MP.has M2 n)):=az (λn=>by
    have:=bK.o.2.2.2 n
    rw[hnil]at this
    unfold Qh at this
    simpa using this)
   clear hnx hnil;go_wp2_with (at_next;refine dK rfl (.tmp 7) rfl rfl (iH.o.run _) ?_);go_end0;exact⟨rfl,M,bK.o.1,HE.o,bK.o.2.2.1⟩
  have hok:MP.Ok left:=by obtain⟨_,_,_,_,_,_,_,_,_,_,_,_,hok⟩:=bK.o.2.1;exact hok
  have hget:=MP.dR hok hmem;have hdl:(MP.del left kk).length+1=left.length:=MP.o8 hget;have HPD:=az (MP.fO hget);have hrl:=bK.o.2.1.lt;have iH:Hid (kZ (.pointer (some ⟨r,0,none⟩)) (.tuple #[.bool true,.int .u32 kk,.agg #[vi pb,vi pp]]) wr w2):=az ⟨hnx⟩;have vN:Hid (bd≠r/\r<w2.heap.size/\bd<w2.heap.size):=az ⟨by have:=ig.o;omega,aa,by have:=bK.o.1.lt;omega⟩;have yC:Hid (bz w2 bd .u32 dz M/\gL w2 r bs .u32 dz (MP.del left kk)/\aP (λm=>m=bd) w w2):=az ⟨bK.o.1.aJ hc2 (λe=>vN.o.1 e),hit2,by
   have h1:=bK.o.2.2.1
   have h2:=HRR.o
   exact⟨hc2.os.trans h1.os,hc2.tape.trans h1.tape,hc2.output.trans h1.output,abX h1.size hc2.size,λk hk hn=>(hc2.block k (adN hk h1.size) aa).trans (h1.block k hk hn)⟩⟩
  have HHH:=az bK.o.2.2.2;clear hnx hit2 hc2 hmem hok hget hrl;go_upto_region 3 with (at_next;refine dK rfl (.tmp 7) rfl rfl (iH.o.run _) ?_);have FB:Hid (aD (w2.alloc (.cells #[vi pb,vi pp] 165)) w2.heap.size 165 #[vi pb,vi pp]):=az (aD.new _ _ _);have HB3:Hid (acN w2.heap.size w2 (w2.alloc (.cells #[vi pb,vi pp] 165))):=az ax;rw[hs2]at FB;obtain⟨w4,rG,SV,hg4⟩:=rE (yC.o.1.old HB3.o) kk pb pp;have HU:=az rG;have QW:Hid (aP (λm=>m=bd) w2 w4):=az ((aP.of_below HB3.o).grown hg4 (λk e=>by cases e;exact .inl rfl))
  have HM4:Hid (bz w4 bd .u32 dz (MP.put M kk ⟨pb,pp⟩)/\gL w4 r bs .u32 dz (MP.del left kk)/\aP (λm=>m=bd) w w4/\(∀n,(MP.has (MP.put M kk ⟨pb,pp⟩) n||Qh (MP.del left kk) n)=(MP.has M1 n||MP.has M2 n))) :=
   az ⟨SV,yC.o.2.1.aJ QW.o (λe=>zx.o e.symm) (λe=>vN.o.1 e.symm),yC.o.2.2.trans QW.o (λ_ _ e=>e),λn=>by
    rw[<-HHH.o n,VA HPD.o n,kE]
    show _=(MP.has M n||(List.any ((kk,(⟨pb,pp⟩:FP.cB))::MP.del left kk) λx=>x.1==n))
    rw[List.any_cons]
    by_cases e:kk=n
    subst e;simp
    rw[if_neg e]
    have:(kk==n)=false:=by simp[e]
    dsimp only
    rw[this,Bool.false_or]
    rfl⟩
  obtain⟨y0,y1,_,_⟩:=bO FB.o;clear hen bK rG SV hg4 HPD HHH yC QW;generalize w2.alloc (.cells #[vi pb,vi pp] 165)=w3 at*;go_wp2_with (at_mapUpdate;refine gP rfl (.tmp 13) (.tmp 14) (.tmp 15) rfl rfl rfl rfl HU.o.run ?_);go_frame;go_roundg (MP.del left kk).length
  case measure=>omega
  case rel=>exact⟨_,_,aj,HM4⟩
end us
namespace FP
def Ft.here (f:Ft)(n:Int):Bool:=(n != 0)&&(MP.has f.now n||(MP.has f.bD n&& !MP.has f.gone n))
end FP
namespace us
open RowKit Go.Sort mgr ft po nd
attribute [local go_sem] agh
variable{w:acL}
def lT {F:Fence}{nF:Nat}{P:Program}{w':acL}{ops:Array Oper}{rest:List Oper}{o:Oper}{a:Act}{Q:Exit->Act->acL->Prop}(hgd:o.guard=none)(m x:Operand){t u:TypeId}(ho:o.op=.call {callee:=.builtin .delete,args:=#[m,x],argTypes:=#[t,u]}){mv kv:acK}(hm:a.eval m=mv)(hx:a.eval x=kv)
  (hrun:(Builtin.delete_ #[t,u] o.type #[mv,kv]).run P w=.ok (adg #[]) w') (h:wpListIn F nF P ops Q rest (a.put o.dst (adg #[])) w'):wpListIn F nF P ops Q (o::rest) a w:=by
 refine wpListIn_plain hgd λK hK=>?_
 unfold Oper.wpIn;refine⟨by simp[Oper.about,ho,resolve,Target.leads,Sem.run_pure],?_⟩;rw[Oper.semAt_plain F _ _ (by rw[ho];intro c hc';cases hc')];unfold execOp;simp only[ho,resolve,invoke,builtin,Sem.run_bind,Sem.run_pure,Result.andThen_ok,List.map_toArray,List.map_cons,List.map_nil,hm,hx,hrun];exact hK _ _ h
variable{aA:Nat}{w:acL}{f:Nat}{X:dm}
def oI:ac4 prog 71 #[ptr f] w λe w'=>e=ab4 (.func (.func 105) #[] #[ptr w.heap.size])/\w'=w.alloc (ach #[ptr f] 92):=by
 go_in;go_wp2;go_ret;exact⟨ai,rfl⟩
def VB {M:Mp FP.cB}(hm:MP.Ok M)(h:∀n,MP.has M n=true->X.view.here n=true)(hx:X.Fit):(∀x∈M,0<=x.1/\x.1<8192)/\M.length<=8192:=by
 have h1:∀x∈M,0<=x.1/\x.1<8192:=λx hx2=>by
  have h2:=h x.1 (by unfold MP.has;rw[MP.dR hm hx2];rfl);unfold FP.Ft.here at h2;simp only[ac8,ae5]at h2;rcases h2.2 with h3|h3;unfold MP.has at h3;obtain⟨p,hp⟩:=aeV.1 h3;exact hx.oG.2 (x.1,p) (MP.get_mem hp);have h4:=h3.1;unfold MP.has at h4;obtain⟨p,hp⟩:=aeV.1 h4;exact hx.slow.2 (x.1,p) (MP.get_mem hp)
 refine⟨h1,?_⟩;have:=Fx M 0 8192 ag hm h1;omega
def Qi {M:Mp FP.cB}{ss l':List Nat}(hm:MP.Ok M)(h:∀n,MP.has M n=true->X.view.here n=true)(hl:M.length<=8192)(hS:(ss.map λn:Nat=>(n:Int)).Perm (M.map af5))(hp:l'.Perm ss) :
  l'.Nodup/\l'.length<=8192/\∀n:Nat,n∈l'->X.view.here n=true:=by
 have hq:(l'.map λn:Nat=>(n:Int)).Perm (M.map af5):=(hp.map _).trans hS;have hnd:(M.map af5).Nodup:=by
  refine List.Pairwise.map _ ?_ hm;intro x y hxy e;omega
 refine⟨?_,?_,λn hn=>?_⟩;have h1:(l'.map λn:Nat=>(n:Int)).Nodup:=hq.symm.nodup hnd;exact List.Pairwise.of_map _ (λx y hxy e=>hxy (by rw[e])) h1;have h1:=hq.length_eq;rw[abT,abT]at h1;omega;have h1:(n:Int)∈M.map af5:=hq.subset (aay.2 ⟨n,hn,rfl⟩);obtain⟨x,hx,e⟩:=aay.1 h1;have h2:=h x.1 (by unfold MP.has;rw[MP.dR hm hx];rfl);rw[<-e];exact h2
def gB.form2 {b0:Nat}{v:acK}{l:List Nat}(h:gB w b0 v l):∃a c,v=aco a l.length c:=by
 rcases h.2 with⟨rfl,h0⟩|⟨g,cap,cur,rfl,_⟩;exact⟨none,0,by rw[h0]⟩;exact⟨_,_,rfl⟩
def gB.some {b0:Nat}{a:Option Addr}{n c:Nat}{l:List Nat}(h:gB w b0 (aco a n c) l){i:Nat}(hi:i<l.length):∃g,a=.some ⟨g,0,.none⟩:=by
 rcases h.2 with⟨_,h0⟩|⟨g,cap,cur,e,_⟩;omega;injection e with e;exact⟨g,e⟩
def Gy (h:bP aA w f X)(hx:X.Fit){bx:Nat}(hbx:aD w bx 92 #[ptr f]) :
  Gives 105 #[ptr bx] 20000 (λss=>ss.Nodup/\ss.length<=8192/\∀n:Nat,n∈ss->X.view.here n=true) w:=by
 intro l J K W hW hlt hA hY h0;have H:=az (h.old hW);have HX:=az hx;have c0:W.cell? ⟨bx,0,none⟩=some (ptr f):=(hbx.below hW hbx.lt).cell 0;have ig:=az hlt;have HA:=az hA;have HY:=az hY;have FI:=az h0;have HB0:=az (hbx.below hW hbx.lt);clear hlt hA hY hW hbx h0 h hx;refine agn.1 (callsIn_of_wp (F:=agb) (n:=5) func105 rfl trivial ?_ rfl);simp only[ntmps105,af7,adV,afO,agi,agj,af8,af9,agd,aga,afl,age];have hmk:(Instr.makeMap 149 none).run prog W=.ok (.map (some W.heap.size)) (W.alloc (.map #[] 0)):=ah
 have ZQ:Hid (bz (W.alloc (.map #[] 0)) W.heap.size .u32 dz ([]:Mp FP.cB)):=az (bz.made W .u32 dz);have lK:Hid (acN W.heap.size W (W.alloc (.map #[] 0))):=az ax;obtain⟨tm,Zv⟩:∃tm,W.heap.size=tm:=⟨_,rfl⟩;have Zu:=az Zv;have HF1:=az (H.o.old lK.o);have c1:(W.alloc (.map #[] 0)).cell? ⟨bx,0,none⟩=some (ptr f):=(HB0.o.old lK.o).cell 0;have c2:(W.alloc (.map #[] 0)).cell? ⟨f,5,none⟩=some (.map (some X.bs)):=HF1.o.obj.cell 5;rw[Zv]at hmk ZQ;have JS:=az (JE (w:=W.alloc (.map #[] 0)) ZQ.o HF1.o.bD (by have:=H.o.bD.lt;rw[Zv]at this;omega))
 have D6:Hid (f<tm/\bx<tm/\X.bs<tm/\X.bn<tm/\X.bg<tm):=az ⟨by have:=H.o.obj.lt;omega,by have:=HB0.o.lt;omega,by have:=H.o.bD.lt;omega,by have:=H.o.now.lt;omega,by have:=H.o.gone.lt;omega⟩;clear Zv;generalize hw1:W.alloc (.map #[] 0)=w1 at*;clear hw1;gi_wp2;refine⟨trivial,(agn.2 JS.o).mono ?_⟩;rintro e w2 ⟨rfl,M1,hm1,hh1,hq1⟩;have HB2:Hid (acN W.heap.size W w2):=az (eY lK.o hq1 (λm e=>by rw[e];have:=Zu.o;omega));have vK:=az (H.o.old HB2.o);obtain⟨w3,hrun,hit,hb3,_⟩:=vK.o.gone.range (P:=prog) underlying149;have Da:Hid (xk 149 (.map (some X.bg)) (.pointer (some ⟨w2.heap.size,0,none⟩)) w2 w3):=az ⟨hrun⟩
 have HW2:Hid (tm<w2.heap.size/\W.heap.size<=w2.heap.size):=az ⟨hm1.lt,HB2.o.size⟩;have zi:Hid (bz w3 tm .u32 dz M1/\gL w3 w2.heap.size X.bg .u32 dz X.D/\acN W.heap.size W w3/\∀n,(MP.has M1 n&& !Qh X.D n)=(MP.has M1 n&& !MP.has X.D n)) :=
  az ⟨hm1.old hb3,hit,HB2.o.trans (hb3.mono HB2.o.size),λn=>by rw[zW]⟩
 have HH1:Hid (∀n,MP.has M1 n=MP.has X.S n):=az (λn=>by rw[hh1 n];simp[MP.has,MP.get]);have c3:w2.cell? ⟨bx,0,none⟩=some (ptr f):=(HB0.o.old HB2.o).cell 0;have c4:w2.cell? ⟨f,7,none⟩=some (.map (some X.bg)):=vK.o.obj.cell 7;clear hm1 hh1 hq1 hrun hit hb3 c0 c1 c2 ZQ HF1 JS hmk;gi_wp2_with (gi_at_range;refine jm rfl (.tmp 19) rfl rfl Da.o.run ?_);go_frame;clear Da c3 c4;generalize w2.heap.size=r at*;gi_loopg [4] X.D.length (λk _ wr=>∃(M left:Mp FP.cB),left.length<=k/\Hid (bz wr tm .u32 dz M/\gL wr r X.bg .u32 dz left/\acN W.heap.size W wr/\∀n,(MP.has M n&& !Qh left n)=(MP.has M1 n&& !MP.has X.D n)))
 case atStart=>exact⟨M1,X.D,aj,zi⟩
 case round =>
  clear zi;obtain⟨M,left,hlk,hrd⟩:=hrel;have bK:=az hrd.o;clear hrd;rcases bK.o.2.1.next (P:=prog) with⟨hnil,hnx⟩|⟨⟨kk,pb,pp⟩,w4,hmem,hnx,hit2,hc2,hs2,hen⟩
  ·have iH:Hid (kZ (.pointer (some ⟨r,0,none⟩)) (.tuple #[.bool false]) wr wr):=az ⟨hnx⟩;have HE:Hid (∀n,MP.has M n=(MP.has X.S n&& !MP.has X.D n)):=az (λn=>by
    have:=bK.o.2.2.2 n
    rw[hnil,HH1.o]at this
    unfold Qh at this
    simpa using this)
   have vZ:=az (H.o.old bK.o.2.2.1);have JS:=az (JE (w:=wr) bK.o.1 vZ.o.now (by have:=D6.o;omega));have c3:wr.cell? ⟨bx,0,none⟩=some (ptr f):=(HB0.o.old bK.o.2.2.1).cell 0;have c4:wr.cell? ⟨f,6,none⟩=some (.map (some X.bn)):=vZ.o.obj.cell 6;clear hnx hnil;gi_wp2_with (gi_at_next;refine eD rfl (.tmp 20) rfl rfl (iH.o.run _) ?_);refine⟨trivial,(agn.2 JS.o).mono ?_⟩;rintro e w5 ⟨rfl,M3,hm3,hh3,hq3⟩;have qG:Hid (acN W.heap.size W w5):=az (eY bK.o.2.2.1 hq3 (λm e=>by rw[e];have:=Zu.o;omega));obtain⟨w6,hdel,hm6,uy⟩:=xH hm3 0;have vQ:=az hdel
   have uC:Hid (acN W.heap.size W w6):=az (qG.o.grown uy qG.o.size (λk e=>by cases e;have:=Zu.o;omega));have Qj:=az hm6;have VC:Hid (∀n,MP.has (MP.del M3 0) n=true->X.view.here n=true):=az (λn hn=>by
    rw[jN hm3.ok]at hn
    split at hn
    cases hn
    rename_i e
    rw[hh3 n,HE.o n]at hn
    unfold FP.Ft.here
    simp only[ac8,ae5,bne_iff_ne,ne_eq]
    refine⟨λe2=>e e2.symm,?_⟩
    simp only[ac8,ae5]at hn
    rcases hn with h1|h1
    exact .inr h1
    exact .inl h1)
   clear hdel hm6 uy hm3 hh3 hq3 c3 c4 iH JS HE;generalize MP.del M3 0=M6 at*;have VD:=az (VB Qj.o.ok VC.o HX.o);gi_wp2_with (refine lT rfl (.tmp 33) (.const (.int .u32 0)) rfl rfl rfl (vQ.o.run _) ?_);refine⟨trivial,(agn.2 (Cu tm)).mono ?_⟩;rintro e w7 ⟨rfl,hw7⟩;have Wt:Hid (acN w6.heap.size w6 w7):=az (by rw[hw7];exact ax);have BG:Hid (aD w7 w6.heap.size 149 #[.map (some tm)]):=az (by rw[hw7];exact aD.new _ _ _);have HKG:=az (keys_gives (N:=20000) (Qj.o.old Wt.o) BG.o (λx hx=>(VD.o.1 x hx).1) (by have:=VD.o.2;omega))
   have jU:Hid (∀ss:List Nat,(ss.map λn:Nat=>(n:Int)).Perm (M6.map af5)->ss.length<1000000):=az (λss h=>by
    have h1:=h.length_eq
    rw[abT,abT]at h1
    have:=VD.o.2
    omega)
   clear hw7;gi_wp2;refine⟨trivial,(agn.2 (ve aa jU.o (dI func139 ah rfl) HKG.o)).mono ?_⟩;rintro e w8 ⟨v,ss,l',rfl,hS,hp,hu,wT⟩;have HL:Hid (l'.Nodup/\l'.length<=8192/\∀n:Nat,n∈l'->X.view.here n=true):=az (Qi Qj.o.ok VC.o VD.o.2 hS hp);have HU:=az hu;have wX:Hid (acN W.heap.size W w8):=az ((uC.o.trans (Wt.o.mono uC.o.size)).trans (wT.mono (abX uC.o.size Wt.o.size)));have FU:Hid (W.heap.size<=w7.heap.size):=az (abX uC.o.size Wt.o.size);obtain⟨a,c,hv⟩:=hu.form2;obtain⟨n',hn'⟩:∃n',l'.length=n':=⟨_,rfl⟩
   have HN':=az hn';rw[hn']at hv;subst hv;have Kq:n'<=8192:=by rw[<-hn'];exact HL.o.2.1
   clear hn';have HJ8:Hid (J K (l'.take 0) w8/\gB w8 w7.heap.size (.slice a n' c) l'/\(∀g,(aco a n' c).ownBlock=some g->¬K g/\g<w8.heap.size)) :=
    az ⟨HA.o K [] W w8 (λ_=>False) FI.o (aP.of_below wX.o) (λ_ e=>e.elim) (λ_ e=>e.elim),HU.o,λg e=>⟨λe2=>by
     have h1:=(ig.o _ _ _ FI.o g e2).1
     have h2:=(HU.o.lt e).2.1
     have:=FU.o
     omega,(HU.o.lt e).1⟩⟩
   clear hS hp hu wT HKG jU BG Wt Qj VC VD bK vQ;gi_wp2;gi_loopg [6,38] n' (λk _ v38 wr=>∃(K:Nat->Prop) (i:Nat),v38=vi i/\i<=n'/\n'-i<=k/\Hid (J K (l'.take i) wr/\gB wr w7.heap.size (.slice a n' c) l'/\(∀g,(aco a n' c).ownBlock=some g->¬K g/\g<wr.heap.size)))
   case atStart=>exact⟨K,0,rfl,Nat.zero_le _,aa,HJ8⟩
   case round =>
    clear HJ8;obtain⟨K,i,rfl,hil,hik,hrd⟩:=hrel;have bK:=az hrd.o;clear hrd;by_cases hlt:i<n'
    ·obtain⟨g,hg⟩:=bK.o.2.1.some (by rw[HN'.o];exact hlt);have hcell:∀g,a=some ⟨g,0,none⟩->wr.cell? ⟨g,i,none⟩=some (vw (l'.getD i 0)):=λg e=>by
      have h1:=bK.o.2.1;rw[e,<-HN'.o]at h1;exact h1.ur.cell (by rw[HN'.o];exact hlt)
     have c5:=hcell g hg;subst hg;have q1:(i:Int)<(n':Int):=aa;have q2:adk.wrap ((i:Int)+1)=(i:Int)+1:=adl _ aa;obtain⟨x,hx⟩:∃x,l'.getD i 0=x:=⟨_,rfl⟩;rw[hx]at c5;obtain⟨fn,tmps,assign,body,hy,hR⟩:=HY.o K (l'.take i) x wr bK.o.1 (by rw[List.length_take];have:=HL.o.2.1;omega);have HR:=az hR;have zQ:Hid (l'.take i++[x]=l'.take (i+1)):=az (by
      have hlt2:i<l'.length:=by rw[HN'.o];exact hlt
      rw[List.take_succ_eq_append_getElem hlt2,<-hx]
      simp[afh,hlt2])
     clear hR hcell hx;gi_wp2;refine HR.o.mono ?_;rintro e W4 ⟨rfl,K',Tm,YF,hsub⟩;have Vz:Hid (J K' (l'.take (i+1)) W4/\gB W4 w7.heap.size (.slice (some ⟨g,0,none⟩) n' c) l'/\(∀g',(aco (some ⟨g,0,none⟩) n' c).ownBlock=some g'->¬K' g'/\g'<W4.heap.size)) :=
      az ⟨by rw[<-zQ.o];exact Tm,bK.o.2.1.aJ YF (λg' e=>(bK.o.2.2 g' e).1),λg' e=>⟨λe2=>by
       rcases hsub g' e2 with e3|e3
       exact(bK.o.2.2 g' e).1 e3
       have:=(bK.o.2.2 g' e).2;omega,by have:=(bK.o.2.2 g' e).2;have:=YF.size;omega⟩⟩
     clear Tm YF hsub hy c5;gi_wp2;gi_roundg (n'-(i+1))
     case measure=>omega
     case rel=>exact⟨K',i+1,by first|rfl|go_num|(congr 1;omega),aa,aa,Vz⟩
    obtain rfl:i=n':=aa;gi_wp2;go_end0;exact⟨⟨_,rfl⟩,K,l',HL.o,by have:=bK.o.1;rwa[<-HN'.o,List.take_length]at this⟩
  have hok:MP.Ok left:=by obtain⟨_,_,_,_,_,_,_,_,_,_,_,_,hok⟩:=bK.o.2.1;exact hok
  have hget:=MP.dR hok hmem;have hdl:(MP.del left kk).length+1=left.length:=MP.o8 hget;have hrl:=bK.o.2.1.lt;have iH:Hid (kZ (.pointer (some ⟨r,0,none⟩)) (.tuple #[.bool true,.int .u32 kk,.agg #[vi pb,vi pp]]) wr w4):=az ⟨hnx⟩;have hne:tm≠r:=by have:=HW2.o;omega
  obtain⟨w5,hdel,hm5,hg5⟩:=xH (bK.o.1.aJ hc2 hne) kk;have vQ:=az hdel;have HC5:Hid (aP (λm=>m=tm) w4 w5):=az ((aP.refl _ _).grown hg5 (λk e=>by cases e;exact .inl rfl));have ql:Hid (bz w5 tm .u32 dz (MP.del M kk)/\gL w5 r X.bg .u32 dz (MP.del left kk)/\acN W.heap.size W w5/\∀n,(MP.has (MP.del M kk) n&& !Qh (MP.del left kk) n)=(MP.has M1 n&& !MP.has X.D n)) :=
   az ⟨hm5,hit2.aJ HC5.o (by have:=D6.o;omega) (λe=>hne e.symm),eY (eY bK.o.2.2.1 hc2 (λm e=>by rw[e];exact HW2.o.2)) HC5.o (λm e=>by rw[e];have:=Zu.o;omega),λn=>by
    rw[<-bK.o.2.2.2 n,zW,zW,jN bK.o.1.ok,jN hok]
    by_cases e:kk=n
    rw[if_pos e]
    have:MP.has left n=true:=by rw[<-e];unfold MP.has;rw[hget];rfl
    rw[this]
    simp
    rw[if_neg e,if_neg e]⟩
  clear hnx hit2 hc2 hmem hok hget hrl hdel hm5 hg5 HC5 bK;gi_wp2_with (first|(gi_at_next;refine eD rfl (.tmp 20) rfl rfl (iH.o.run _) ?_)|(refine lT rfl (.tmp 25) (.tmp 26) rfl rfl rfl (vQ.o.run _) ?_));gi_roundg (MP.del left kk).length
  case measure=>omega
  case rel=>exact⟨_,_,aj,ql⟩
end us
namespace FP
open mgr ft
structure GG (t a e:Nat)(F:Ft):Prop where
 sound:Sound F
 wJ:yh F
 seq:1<=F.seq/\F.seq<=a
 aM:1<=F.aM/\F.aM<=e
 size:F.c.S=64
 log:∀n:Nat,1<=n->n<=t->F.logical n=0
 seen:∀n:Nat,n≠0->F.see n≠none->F.logical n=0
section
variable{t a e:Nat}{F F':Ft}
def GG.mono {a' e':Nat}(h:GG t a e F)(ha:a<=a')(he:e<=e'):GG t a' e' F:=⟨h.sound,h.wJ,⟨h.seq.1,abX h.seq.2 ha⟩,⟨h.aM.1,abX h.aM.2 he⟩,h.size,h.log,h.seen⟩
def GG.still (e0:F'.still=F.still)(h:GG t a e F):GG t a e F':=by
 obtain⟨c,g,r,b,tx,s,n,d,sq,ep,la,ov⟩:=F;obtain⟨c',g',r',b',tx',s',n',d',sq',ep',la',ov'⟩:=F';unfold Ft.still at e0;injection e0 with e1 e2 e3 e4 e5 e6 e7 e8 e9 e10 e11 e12;dsimp only at e1 e2 e3 e4 e5 e6 e7 e8 e9 e10 e11 e12;subst e2 e3 e4 e5 e6 e7 e8 e9 e10 e11 e12;obtain⟨B,P,S,bs,fs,si,dn,st,rd⟩:=c;obtain⟨B',P',S',bs',fs',si',dn',st',rd'⟩:=c';injection e1 with a1 a2 a3 a4 a5 a6 a7 a8;subst a1 a2 a3 a4 a5 a6 a7 a8;have hf:=po.fit_still (F:=⟨⟨B',P',S',bs',fs',si',dn',st',rd⟩,g',r',b',tx',s',n',d',sq',ep',la',ov'⟩) (F':=⟨⟨B',P',S',bs',fs',si',dn',st',rd'⟩,g',r',b',tx',s',n',d',sq',ep',la',ov'⟩) h.sound.fit rfl
 have hc:=h.sound.cg;exact⟨⟨hf,⟨hf.good,hf.lL,hc.fs,hc.up,hc.whole,hc.J2,hc.n1,hc.n0⟩,h.sound.over,h.sound.later,λs n p hp=>by
  have:=h.sound.place s n p hp
  exact⟨this.b0,this.b1,this.p0,this.p1⟩,h.sound.inj,h.sound.live,h.sound.gone⟩,h.wJ,h.seq,h.aM,h.size,h.log,h.seen⟩
def GG.like (h:GG t a e F)(H':Sound F')(h0:yh F')(L:l7 F F'){a' e':Nat}(hs:1<=F'.seq/\F'.seq<=a')(he:1<=F'.aM/\F'.aM<=e')(hn:∀n:Nat,n≠0->F'.see n≠none->F.logical n=0):GG t a' e' F' :=
 ⟨H',h0,hs,he,by rw[L.bI.2.2];exact h.size,λn h1 h2=>by rw[L.logical h.sound H'];exact h.log n h1 h2,λn h1 h2=>by rw[L.logical h.sound H'];exact hn n h1 h2⟩
def VE (F:Ft)(n:Nat)(h:F.here n=true):n≠0/\F.see n≠none:=by
 unfold Ft.here at h;simp only[ac8,ae5,bne_iff_ne,ne_eq]at h;refine⟨by have:=h.1;omega,?_⟩;unfold Ft.see Ft.at_;cases hg:MP.get F.now n with
 |some p=>simp
 |none =>
  have h1:MP.has F.now n=false:=by unfold MP.has;rw[hg];rfl
  rw[h1]at h;have h2:=h.2;simp only[Bool.false_eq_true,false_or,Bool.not_eq_eq_eq_not,Bool.not_true]at h2;dsimp only;rw[h2.2];have h3:=h2.1;unfold MP.has at h3;obtain⟨p,hp⟩:=aeV.1 h3;simp[hp]
def GG.drop (h:GG t a e F)(n:Nat)(h1:n≠0)(h2:F.see n≠none):(F.drop n).1=0/\GG t a e (F.drop n).2/\(∀m,m≠n->(F.drop n).2.see m=F.see m)/\(F.drop n).2.see n=none:=by
 obtain⟨h3,h4⟩:=Yi h.sound n (h.seen n h1 h2);refine⟨h3,h.like h4.sound (h4.wJ h.wJ) h4.like (by rw[h4.seq.1];exact h.seq) (by rw[h4.seq.2.1];exact h.aM) (λm hm hs=>?_),h4.uh,h4.see⟩;by_cases e:m=n;rw[e];exact h.seen n h1 h2;rw[h4.uh m e]at hs;exact h.seen m hm hs
def GG.keep (h:GG t a e F)(H':Sound F')(k:jl F F'):GG t a e F' :=
 h.like H' (k.wJ h.wJ) k.like (by rw[k.num.2.2.2.1];exact h.seq) (by rw[k.num.2.2.2.2];exact h.aM) (λm hm hs=>by rw[k.see]at hs;exact h.seen m hm hs)
variable{n:Nat}
def GG.write (h:GG t a e F)(ha:a<4611686018427387904)(he:e<4611686018427387904)(h1:1<=n)(h2:n<=t){b:List Nat}(hl:b.length=64)(hb:∀y∈b,y<256) :
  ∃r,F.Cg n b=some r/\((r.1=0/\GG t (a+1) e r.2/\(∀m,m≠n->r.2.see m=F.see m)/\r.2.see n=some (TP.bytes ⟨1,n,F.seq,F.aM⟩ b))\/(r.1=40/\GG t a e r.2/\∀m,r.2.see m=F.see m)):=by
 have hq:=h.seq;have hp:=h.aM;have VF:=h.log n h1 h2;obtain⟨r,h3,h4,h5⟩:=PX h.sound n ⟨hq.1,aa⟩ ⟨hp.1,aa⟩ hb;refine⟨r,h3,?_⟩;rcases h5 with⟨h6,h7⟩|⟨h6,h7⟩;refine ack ⟨h6,h.like h4 (h7.wJ h.wJ) h7.like (by rw[h7.seq.1];omega) (by rw[h7.seq.2.1];exact hp) (λm hm hs=>?_),h7.uh,h7.see⟩;by_cases e:m=n;rw[e];exact VF;rw[h7.uh m e]at hs;exact h.seen m hm hs;refine acm ⟨?_,h.keep h4 h7,λm=>h7.see m⟩;rcases h6 with h6|h6|h6;exact h6;exact absurd (hl.trans h.size.symm) h6.2;exact absurd VF h6.2
def GG.ajt (h:GG t a e F)(ha:a<4611686018427387904)(he:e<4611686018427387904){tx:List Nat}(hl:tx.length=56)(hb:∀y∈tx,y<256) :
  ∃r,F.agt tx=some r/\GG t (a+1) (e+1) r.2/\(r.1=0\/r.1=40)/\∀m,m≠0->r.2.see m=F.see m:=by
 have hq:=h.seq;have hp:=h.aM;have hz:=h.size;obtain⟨r,h3,h4,h5⟩:=Ck h.sound h.wJ (text:=tx) ⟨hq.1,aa⟩ ⟨hp.1,aa⟩ hb;refine⟨r,h3,?_⟩;rcases h5 with⟨h6,h7⟩|⟨h6,h7⟩;refine⟨h.like h4 (by unfold yh;rw[h7.now.1];rfl) h7.like (by rw[h7.seq.1];omega) (by rw[h7.seq.2.1];omega) (λm hm hs=>?_),ack h6,h7.see⟩;rw[h7.see m hm]at hs;exact h.seen m hm hs;refine⟨(h.keep h4 h7).mono (Nat.le_succ _) (Nat.le_succ _),acm ?_,λm _=>h7.see m⟩;rcases h6 with h6|h6;exact h6;exact absurd aa h6.2
def zX (H:Sound F)(H':Sound F')(h1:F.logical n=0)(h2:F'.logical n=0)(hs:F'.see n=F.see n){l:List Nat}(h:po.Has F n l):po.Has F' n l:=by
 have e:(F'.read n).1=(F.read n).1:=by
  rw[H.read,H'.read,h1,h2,hs]
 unfold po.Has;rw[e];exact h
def Qk (H':Sound F'){s p:Nat}(h2:F'.logical n=0)(hs:1<=s/\s<4611686018427387904)(hp:1<=p/\p<4611686018427387904)(hn:n<8192){l:List Nat}(hl:l.length=64)(hb:∀y∈l,y<256)(acf:F'.see n=some (TP.bytes ⟨1,n,s,p⟩ l)):po.Has F' n l:=by
 refine⟨hl,hb,acm ?_⟩;rw[H'.read,if_neg (by simp[h2]),acf];dsimp only;rw[TP.LB (by unfold TP.right;simp;omega) (by unfold TP.sized;simp[hl])];rfl
end
end FP
namespace uj
open RowKit us mgr ft po nd
attribute [local go_sem] agh
def Gives (gf:Nat)(lb:Array acK)(N:Nat)(S:List Int->Prop)(w0:acL):Prop :=
 ∀(l:Nat) (J:(Nat->Prop)->List Int->acL->Prop) (K:Nat->Prop) (W:acL),acN w0.heap.size w0 W ->
  (∀K ss W,J K ss W->∀n,K n->n<W.heap.size/\w0.heap.size<=n) ->
  (∀K ss W W' F,J K ss W->aP F W W'->(∀n,F n->¬K n)->(∀n,F n->w0.heap.size<=n)->J K ss W') ->
  (∀K ss x W,J K ss W->ss.length<N->YieldAt agb 4 prog l #[vi x] W λe W'=>e=ab4 (acg true)/\∃K',J K' (ss++[x]) W'/\aP K W W'/\∀n,K' n->K n\/W.heap.size<=n) ->
  J K [] W->ac4 prog gf (#[.func (.yield l) #[] #[]]++lb) W λe W'=>(∃v,e=ab4 v)/\∃K' ss,S ss/\J K' ss W'
structure Vu (w0:acL)(bs l D:Nat)(ro:Obj)(K:Nat->Prop)(ss:List Int)(W:acL):Prop where
 below:acN w0.heap.size w0 W
 box:∃v,aD W bs 31 #[v]/\dZ W w0.heap.size v ss/\∀n,K n↔n=bs\/n=l\/n=D\/v.ownBlock=some n
 lJ:W.heap[l]?=some ro
 nW:W.heap[D]?=some (adL (some []))
section
variable{w0:acL}{bs l D:Nat}{ro:Obj}
def Ct {K:Nat->Prop}{ss:List Int}{W:acL}(h1:w0.heap.size<=bs/\w0.heap.size<=l/\w0.heap.size<=D)(h:Vu w0 bs l D ro K ss W):∀n,K n->n<W.heap.size/\w0.heap.size<=n:=by
 intro n hn;obtain⟨v,h2,h3,h4⟩:=h.box;rcases (h4 n).1 hn with e|e|e|e;rw[e];exact⟨h2.lt,h1.1⟩;rw[e];exact⟨(aaz.1 h.lJ).1,h1.2.1⟩;rw[e];exact⟨(aaz.1 h.nW).1,h1.2.2⟩;exact⟨(h3.lt e).1,(h3.lt e).2.1⟩
def Gw {K:Nat->Prop}{ss:List Int}{W W':acL}{F:Nat->Prop}(h:Vu w0 bs l D ro K ss W)(q:aP F W W')(hn:∀n,F n->¬K n)(h0:∀n,F n->w0.heap.size<=n):Vu w0 bs l D ro K ss W':=by
 obtain⟨v,h2,h3,h4⟩:=h.box;have hs:=h.below.size;refine⟨⟨q.os.trans h.below.os,q.tape.trans h.below.tape,q.output.trans h.below.output,abX hs q.size,λk hk=>(q.block k (adN hk hs) (λe=>by have:=h0 k e;omega)).trans (h.below.block k hk)⟩,
  ⟨v,h2.aJ q (λe=>hn _ e ((h4 _).2 (ack rfl))),h3.aJ q (λg e e2=>hn _ e2 ((h4 _).2 (acm (acm (acm e))))),h4⟩,?_,?_⟩
 exact(q.block l (aaz.1 h.lJ).1 (λe=>hn _ e ((h4 _).2 (acm (ack rfl))))).trans h.lJ;exact(q.block D (aaz.1 h.nW).1 (λe=>hn _ e ((h4 _).2 (acm (acm (ack rfl)))))).trans h.nW
end
def uZ {w':acL}{v0:acK}(tmps:Array acK)(h2:tmps[4]?=some v0):(results Tryz.f141 tmps).run prog w'=.ok v0 w':=by
 simp only[results,results141];simp[go_sem,h2]
variable{w:acL}
def Gx {gf:Nat}{lb:Array acK}{N:Nat}{S:List Int->Prop}(hN:N<=900000)(eg:∀args w,(callFunc gf args).run prog w=.ok (.enter gf args) w)(hg:Gives gf lb N S w) :
  ac4 prog 141 #[aco none 0 0,.func (.func gf) #[] lb] w λe w'=>∃v ss,e=ab4 v/\S ss/\dZ w' w.heap.size v ss/\acN w.heap.size w w':=by
 have HG:=az hg;clear hg;refine agn.1 (callsIn_of_wp_marks (F:=agb) (n:=6) func141 rfl trivial (wpIn_wide.2 ?_) rfl);simp only[ntmps141,af7,adV,afO,agi,agj,af8,af9,agd,aga,afl,age];go_upto_region 1 with fail;have HB1:Hid (acN w.heap.size w (w.alloc (ach #[aco none 0 0] 31))):=az ax;have lD:=az (aD.new w 31 #[aco none 0 0]);have fV:Hid ((w.alloc (ach #[aco none 0 0] 31)).heap.size=w.heap.size+1):=az ai
 obtain⟨x,hx⟩:∃x,x=w.heap.size:=⟨_,rfl⟩;rw[<-hx]at lD ⊢;have HX:=az hx;clear hx;change Code.wp _ _ _ _ (w.alloc (ach #[aco none 0 0] 31));generalize w.alloc (ach #[aco none 0 0] 31)=w1 at*;go_wp2_with fail;refine(wpIn_wide (n:=6)).1 ?_;refine ic (n:=6) aa (gf:=gf) (lb:=lb) rfl eg (λW=>∃v ss,S ss/\aD W x 31 #[v]/\dZ W w.heap.size v ss/\acN w.heap.size w W) ?hc ?hd
 case hc =>
  intro fn;generalize hro:Obj.loop (ja fn _ _ _ _ _ _ _)=ro at*;have hb4:acN w1.heap.size w1 ((w1.alloc (adL (some []))).alloc ro):=ax.alloc ai _;have hl4:((w1.alloc (adL (some []))).alloc ro).heap[w1.heap.size+1]?=some ro:=by
   have h:=agf (w1.alloc (adL (some []))) ro;rwa[acL.size_alloc]at h
  have hd4:((w1.alloc (adL (some []))).alloc ro).heap[w1.heap.size]?=some (adL (some [])):=(acN.heap_alloc _ _ _ ai).trans (agf w1 _);have hsz:=fV.o;have AV:=HX.o;have FI:Vu w x (w1.heap.size+1) w1.heap.size ro (λn=>n=x\/n=w1.heap.size+1\/n=w1.heap.size\/(aco none 0 0).ownBlock=some n) [] ((w1.alloc (adL (some []))).alloc ro) :=
   ⟨HB1.o.trans (hb4.mono HB1.o.size),⟨aco none 0 0,lD.o.old hb4,acL.ownsRow_nil _ _ _ _,λ_=>Iff.rfl⟩,hl4,hd4⟩
  refine(HG.o (w1.heap.size+1) (Vu w x (w1.heap.size+1) w1.heap.size ro) _ _ FI.below (λK ss W h=>Ct ⟨aa,aa,aa⟩ h) (λK ss W W' F h=>Gw h) ?_ FI).mono ?_
  ·clear FI hl4 hd4 hb4;intro K ss n W hJ hlen;have HJ:=az hJ;subst hro;refine rY hJ.lJ rfl rfl rfl ?_;obtain⟨v,h1,h2,h3⟩:=hJ.box;have HL:=az hJ.lJ;have HD:=az hJ.nW;have FU:Hid (x≠w1.heap.size+1/\x≠w1.heap.size):=az aa;have ig:Hid (w1.heap.size+1<W.heap.size/\w.heap.size<=W.heap.size):=az ⟨(aaz.1 hJ.lJ).1,hJ.below.size⟩;have ZF:=az h1;have Jr:=az h2;have CV:=az h3;have HLEN:Hid (ss.length+1<=1000000):=az aa;clear hJ h1 h2 h3 hlen hsz AV;unfold ja at HL ⊢;dsimp only at HL ⊢;gi_wp2;refine⟨HL.o,?_⟩;have GQ:Hid (∀g,v.ownBlock=some g->g≠w1.heap.size):=az (λg e e2=>by
    obtain⟨_,_,cur,hb⟩:=Jr.o.lt e
    have h1:=HD.o
    rw[<-e2]at h1
    unfold aD at hb
    rw[hb]at h1
    cases h1)
   have HNV:Hid (∀g,v.ownBlock=some g->g≠w1.heap.size+1):=az (λg e e2=>by
    obtain⟨_,_,cur,hb⟩:=Jr.o.lt e
    have h1:=HL.o
    rw[<-e2]at h1
    unfold aD at hb
    rw[hb]at h1
    cases h1)
   generalize Dx:Obj.loop {state:=LoopState.busy,pending:=none,fn:=fn,tmps:=_,params:=_,assign:=_,body:=_,defers:=_}=ob;generalize hor:Obj.loop {state:=LoopState.ready,pending:=none,fn:=fn,tmps:=_,params:=_,assign:=_,body:=_,defers:=_}=od at*;have HB2:Hid (aD (W.putObj (w1.heap.size+1) ob) x 31 #[v]):=az ((af4 FU.o.1).trans ZF.o);have yK:Hid ((W.putObj (w1.heap.size+1) ob).heap[w1.heap.size+1]?=some ob):=az (agc ig.o.1);have yx:Hid (aP (λm=>m=w1.heap.size+1) W (W.putObj (w1.heap.size+1) ob)):=az ⟨rfl,rfl,rfl,by simp[af6],λm hm e=>af4 (λe2=>e e2)⟩
   have II:Hid (dZ (W.putObj (w1.heap.size+1) ob) w.heap.size v ss):=az (Jr.o.aJ yx.o (λg e e2=>HNV.o g e e2));have jS:Hid ((W.putObj (w1.heap.size+1) ob).heap.size=W.heap.size):=az (by simp[af6]);have HTY:Hid (∀cs t z,ob≠ ach cs t z):=az (λcs t z e=>by rw[<-Dx]at e;cases e);clear Dx;generalize W.putObj (w1.heap.size+1) ob=W1 at*;have Vv:=az (uT II.o n (by have:=HLEN.o;omega) (by have:=jS.o;have:=ig.o;omega));obtain⟨v',w5,hrun,jT,hg5,Vw⟩:=Vv.o;obtain⟨a5,n5,c5,hv5⟩:=jT.form;subst hv5;have RA:=az hrun;have hbl:acN W1.heap.size W1 (W1.alloc (ach #[vi n] 3)):=ax
   have JX:aD w5 x 31 #[v]:=(HB2.o.alloc _).grown hg5 (bU II.o HB2.o ag);have RN:Hid (w5.heap[w1.heap.size+1]?=some ob):=az ((hg5.block _ (by have:=jS.o;have:=ig.o;simp;omega) (λe=>HNV.o _ e.symm rfl)).trans ((hbl.block _ (by have:=jS.o;have:=ig.o;omega)).trans yK.o));have HD5:Hid (w5.heap[w1.heap.size]?=some (adL (some []))):=az ((hg5.block _ (by have:=jS.o;have:=ig.o;simp;omega) (λe=>GQ.o _ e.symm rfl)).trans ((hbl.block _ (by have:=jS.o;have:=ig.o;omega)).trans ((yx.o.block _ (by have:=ig.o;omega) aa).trans HD.o)));have P9:Hid (aP K W w5):=az ((yx.o.mono (λm _ e=>(CV.o m).2 (acm (ack e)))).trans ((aP.of_below (F:=K) hbl).grown hg5 (λr e=>ack ((CV.o r).2 (acm (acm (acm e)))))) (λ_ _ e=>e))
   have Bl:=az JX;have Dk:=az jT;have ql:=az Vw;have y0:W1.cell? ⟨x,0,none⟩=some v:=HB2.o.cell 0;have z0:=JX.frozen 0;have z1:=JX.cell 0;clear hrun jT hg5 Vw JX hbl Vv;gi_wp2_with (gi_at_builtin;refine lS rfl (.tmp 8) (.tmp 10) rfl rfl rfl RA.o.run ?_);have YB:aP (λm=>m=x) w5 (w5.setCell ⟨x,0,none⟩ (aco a5 n5 c5)):=aP.set (F:=λm=>m=x) w5 (p:=⟨x,0,none⟩) rfl _;have hL6:(w5.setCell ⟨x,0,none⟩ (aco a5 n5 c5)).heap[w1.heap.size+1]?=some ob:=(YB.block _ (aaz.1 RN.o).1 (λe=>FU.o.1 e.symm)).trans RN.o;have hD6:(w5.setCell ⟨x,0,none⟩ (aco a5 n5 c5)).heap[w1.heap.size]?=some (adL (some [])):=(YB.block _ (aaz.1 HD5.o).1 (λe=>FU.o.2 e.symm)).trans HD5.o
   have hU6:dZ (w5.setCell ⟨x,0,none⟩ (aco a5 n5 c5)) w.heap.size (aco a5 n5 c5) (ss++[n]):=Dk.o.aJ YB (λg e e2=>by
    obtain⟨_,_,cur,hb⟩:=Dk.o.lt e
    rw[e2]at hb
    have:=bY hb Bl.o
    revert this
    decide)
   have hB6:aD (w5.setCell ⟨x,0,none⟩ (aco a5 n5 c5)) x 31 #[aco a5 n5 c5]:=Bl.o.bB 0 _;have hC:=P9.o.trans YB (λm _ e=>(CV.o m).2 (ack e));clear y0 z0 z1 RA;generalize w5.setCell ⟨x,0,none⟩ (aco a5 n5 c5)=w6 at*;have YC:aP (λm=>m=w1.heap.size+1) w6 (w6.putObj (w1.heap.size+1) od):=⟨rfl,rfl,rfl,by simp[af6],λm hm e=>af4 (λe2=>e e2)⟩;have hC8:aP K W (w6.putObj (w1.heap.size+1) od):=hC.trans YC (λm _ e=>(CV.o m).2 (acm (ack e)));refine⟨hL6,λm=>m=x\/m=w1.heap.size+1\/m=w1.heap.size\/(aco a5 n5 c5).ownBlock=some m,⟨eY HJ.o.below hC8 (λm e=>(Ct ⟨by have:=HX.o;omega,by have:=HX.o;have:=fV.o;omega,by have:=HX.o;have:=fV.o;omega⟩ HJ.o m e).2),⟨_,?_,?_,λ_=>Iff.rfl⟩,?_,?_⟩,hC8,λm e=>?_⟩
   exact hB6.aJ YC (by have:=FU.o;omega);refine hU6.aJ YC (λg e e2=>?_);obtain⟨_,_,cur,hb⟩:=hU6.lt e;have h1:=HTY.o;rw[e2]at hb;unfold aD at hb;rw[hb]at hL6;injection hL6 with hL6;rw[<-hL6]at h1;exact h1 _ _ _ rfl;exact agc (aaz.1 hL6).1;exact(YC.block _ (aaz.1 hD6).1 aa).trans hD6;rcases e with e|e|e|e;exact ack ((CV.o m).2 (ack e));exact ack ((CV.o m).2 (acm (ack e)));exact ack ((CV.o m).2 (acm (acm (ack e))));rcases ql.o with e2|e2;exact ack ((CV.o m).2 (acm (acm (acm (by rw[<-e2];exact e)))))
   rw[e2]at e;injection e with e;exact acm (by have:=jS.o;omega)
  rintro e W ⟨⟨v,rfl⟩,K',ss,hS,hJ⟩;obtain⟨v2,h1,h2,h3⟩:=hJ.box;exact⟨⟨_,rfl⟩,hJ.lJ,hJ.nW,v2,ss,hS,h1,h2,hJ.below⟩
 case hd =>
  intro W o r hR hD hl;obtain⟨v,ss,hS,h1,h2,h3⟩:=hR;have hC:aP (λm=>m=w1.heap.size+1) W (W.putObj (w1.heap.size+1) o):=⟨rfl,rfl,rfl,by simp[af6],λm hm e=>af4 (λe2=>e e2)⟩;have hne:x≠w1.heap.size+1:=by have:=HX.o;have:=fV.o;omega
  have HB:=az (h1.aJ hC hne);have HU:=az (h2.aJ hC (λg e e2=>by
   obtain⟨_,_,cur,hb⟩:=h2.lt e
   rw[e2]at hb
   unfold aD at hb
   rw[hb]at hl
   cases hl))
  have HD:=az ((hC.block w1.heap.size (aaz.1 hD).1 aa).trans hD);have lK:=az (eY h3 hC (λm e=>by rw[e];have:=HB1.o.size;omega));have DC:=az hS;clear h1 h2 h3 hS hD hl hC;dsimp only;generalize W.putObj (w1.heap.size+1) o=W2 at*;have y0:W2.cell? ⟨x,0,none⟩=some v:=HB.o.cell 0;go_wp2_with fail;refine di.ji (v:=v) HD.o (uZ _ rfl) ⟨v,ss,rfl,DC.o,?_,?_⟩;refine HU.o.aJ (F:=λm=>m=w1.heap.size) ⟨rfl,rfl,rfl,by simp[af6],λm hm e=>af4 (λe2=>e e2)⟩ (λg e e2=>?_);obtain⟨_,_,cur,hb⟩:=HU.o.lt e
  have h1:=HD.o;rw[e2]at hb;unfold aD at hb;rw[hb]at h1;cases h1;exact eY lK.o (F:=λm=>m=w1.heap.size) ⟨rfl,rfl,rfl,by simp[af6],λm hm e=>af4 (λe2=>e e2)⟩ (λm e=>by rw[e];have:=HB1.o.size;omega)
end uj
namespace uj
open RowKit Go.Sort us mgr ft po nd
attribute [local go_sem] agh
variable{w:acL}{lb:Array acK}{N:Nat}{S:List Int->Prop}
def wO {gf:Nat}(hN:N<=900000)(eg:∀args w,(callFunc gf args).run prog w=.ok (.enter gf args) w)(hg:Gives gf lb N S w) :
  ac4 prog 110 #[.func (.func gf) #[] lb] w λe w'=>∃v ss,e=ab4 v/\S ss/\dZ w' w.heap.size v ss/\acN w.heap.size w w':=by
 have HG:=az hg;clear hg;go_in;go_wp2_with (go_at_call 141;refine(Gx hN eg HG.o).mono ?_;rintro e w2 ⟨v,ss,rfl,hS,h1,h2⟩;have H1:=az h1;have H2:=az h2;have HS:=az hS;clear h1 h2 hS);go_ret;exact⟨v,ss,rfl,HS.o,H1.o,H2.o⟩
def ve {gf:Nat}(hN:N<=900000)(hS:∀ss,S ss->ss.length<1000000)(eg:∀args w,(callFunc gf args).run prog w=.ok (.enter gf args) w)(hg:Gives gf lb N S w) :
  ac4 prog 73 #[.func (.func gf) #[] lb] w λe w'=>∃v ss l',e=ab4 v/\S ss/\l'.Perm ss/\dZ w' w.heap.size v l'/\acN w.heap.size w w':=by
 have HG:=az hg;have HN:=az hS;clear hg hS;go_in;go_upto_region 2 with (go_at_call 110;refine(wO hN eg HG.o).mono ?_;rintro e w2 ⟨v,ss,rfl,hS,h1,h2⟩;have H1:=az h1;have H2:=az h2;have HS:=az hS;clear h1 h2 hS);obtain⟨a,n,c,hv⟩:=H1.o.form;subst hv;go_wp2_with (go_at_call 94;refine(Eo H1.o (Nat.le_of_lt (HN.o _ HS.o))).mono ?_;rintro e w3 ⟨rfl,h1,h2⟩;have H3:=az h1;have H4:=az h2;clear h1 h2);go_ret;exact⟨_,ss,_,rfl,HS.o,List.mergeSort_perm _ _,H3.o,eY H2.o H4.o (λm e=>(H1.o.lt e).2.1)⟩
def Cu (b:Nat):ac4 prog 74 #[.map (some b)] w λe w'=>e=ab4 (.func (.func 111) #[] #[ptr w.heap.size])/\w'=w.alloc (ach #[.map (some b)] 94):=by
 go_in;go_wp2;go_ret;exact⟨ai,rfl⟩
def keys_gives {b bx:Nat}{M:Mp acK}(hm:bz w b .i64 (λv:acK=>v) M)(hbx:aD w bx 94 #[.map (some b)])(hN:M.length<=N) :
  Gives 111 #[ptr bx] N (λss=>ss.Perm (M.map af5)) w:=by
 intro l J K W hW hlt hA hY h0;have hbl:=hm.lt;have hmW:bz W b .i64 (λv:acK=>v) M:=hm.of_heap (hW.block b hbl);have c0:W.cell? ⟨bx,0,none⟩=some (.map (some b)):=(hbx.below hW hbx.lt).cell 0;obtain⟨w1,hrun,hit,hb1,_⟩:=hmW.range (P:=prog) underlying94;have Da:Hid (xk 94 (.map (some b)) (.pointer (some ⟨W.heap.size,0,none⟩)) W w1):=az ⟨hrun⟩;have hJ1:J K [] w1:=hA K [] W w1 (λ_=>False) h0 (aP.of_below hb1) (λ_ e=>e.elim) (λ_ e=>e.elim);have ig:=az hlt;have HA:=az hA;have HY:=az hY;have HN:=az hN;have HWS:=az hW.size;have lK:=az hbl;have zi:Hid (J K [] w1/\gL w1 W.heap.size b .i64 (λv:acK=>v) M/\(([]:List Int)++M.map af5).Perm (M.map af5)/\([]:List Int).length+M.length=M.length/\¬K W.heap.size) :=
  az ⟨hJ1,hit,aiF _,ai,λe=>by have:=(hlt _ _ _ h0 _ e).1;omega⟩
 clear hlt hA hY hN hW hbl hm hbx h0 hrun hit hb1 hJ1 hmW;refine agn.1 (callsIn_of_wp (F:=agb) (n:=5) func111 rfl trivial ?_ rfl);simp only[ntmps111,af7,adV,afO,agi,agj,af8,af9,agd,aga,afl,age];gi_wp2_with (gi_at_range;refine jm rfl (.tmp 4) rfl rfl Da.o.run ?_);go_frame;clear Da c0;generalize W.heap.size=r at*;gi_loopg [3] M.length (λk _ wr=>∃(K:Nat->Prop) (ss:List Int) (left:Mp acK),left.length<=k/\Hid (J K ss wr/\gL wr r b .i64 (λv:acK=>v) left/\(ss++left.map af5).Perm (M.map af5)/\ss.length+left.length=M.length/\¬K r))
 case atStart=>exact⟨K,[],M,aj,zi⟩
 case round =>
  clear zi;obtain⟨K,ss,left,hlk,hrd⟩:=hrel;have bK:=az hrd.o;clear hrd;rcases bK.o.2.1.next (P:=prog) with⟨hnil,hnx⟩|⟨⟨kk,pv⟩,w2,hmem,hnx,hit2,hc2,hs2,hen⟩
  ·have iH:Hid (kZ (.pointer (some ⟨r,0,none⟩)) (.tuple #[.bool false]) wr wr):=az ⟨hnx⟩;have HP:=az bK.o.2.2.1;subst hnil;clear hnx;gi_wp2_with (gi_at_next;refine eD rfl (.tmp 5) rfl rfl (iH.o.run _) ?_);go_end0;exact⟨⟨_,rfl⟩,K,ss,by simpa using HP.o,bK.o.1⟩
  obtain⟨n,hkn⟩:∃n:Int,n=kk:=⟨kk,rfl⟩;subst hkn;have hok:MP.Ok left:=by obtain⟨_,_,_,_,_,_,_,_,_,_,_,_,hok⟩:=bK.o.2.1;exact hok
  have hdl:(MP.del left n).length+1=left.length:=MP.o8 (MP.dR hok hmem);have hpd:=MP.fO (MP.dR hok hmem);have hrl:=bK.o.2.1.lt.1;have iH:Hid (kZ (.pointer (some ⟨r,0,none⟩)) (.tuple #[.bool true,.int .i64 n,pv]) wr w2):=az ⟨hnx⟩;have hJ2:J K ss w2:=HA.o K ss wr w2 (λm=>m=r) bK.o.1 hc2 (λm e e2=>bK.o.2.2.2.2 (by rw[<-e];exact e2)) (λm e=>by have:=HWS.o;omega);obtain⟨fn,tmps,assign,body,hy,hR⟩:=HY.o K ss n w2 hJ2 (by have:=bK.o.2.2.2.1;have:=HN.o;omega);have HR:=az hR;have ace:Hid (∀K':Nat->Prop,(∀m,K' m->K m\/w2.heap.size<=m)->¬K' r):=az (λK' h e=>by
   rcases h r e with e2|e2
   exact bK.o.2.2.2.2 e2
   omega)
  have HIT:Hid (gL w2 r b .i64 (λv:acK=>v) (MP.del left n)/\¬K r/\¬K b):=az ⟨hit2,bK.o.2.2.2.2,λe=>by have:=(ig.o _ _ _ hJ2 _ e).2;have:=lK.o;omega⟩;have AR:Hid (((ss++[n])++(MP.del left n).map af5).Perm (M.map af5)):=az (by
   refine List.Perm.trans ?_ bK.o.2.2.1
   rw[adM]
   refine List.Perm.append_left _ ?_
   have:=hpd.symm.map af5
   simpa using this)
  have Kj:Hid ((ss++[n]).length+(MP.del left n).length=M.length):=az (by have:=bK.o.2.2.2.1;rw[List.length_append];simp;omega);clear hnx hit2 hc2 hR hJ2 hmem hpd hok;gi_wp2_with (gi_at_next;refine eD rfl (.tmp 5) rfl rfl (iH.o.run _) ?_);refine HR.o.mono ?_;rintro e W4 ⟨rfl,K',Tm,YF,hsub⟩;have Vz:Hid (J K' (ss++[n]) W4/\gL W4 r b .i64 (λv:acK=>v) (MP.del left n)/\((ss++[n])++(MP.del left n).map af5).Perm (M.map af5)/\(ss++[n]).length+(MP.del left n).length=M.length/\¬K' r) :=
   az ⟨Tm,HIT.o.1.aJ YF HIT.o.2.2 HIT.o.2.1,AR.o,Kj.o,ace.o K' hsub⟩
  clear Tm YF hsub hy;gi_wp2;gi_roundg (MP.del left n).length
  case measure=>omega
  case rel=>exact⟨K',ss++[n],MP.del left n,aj,Vz⟩
end uj
namespace po
open RowKit mgr ft pl us
structure VG (aA:Nat)(w:acL)(q:Nat)(K:Nat->Prop)(w':acL)(K':Nat->Prop)(p':Po):Prop where
 at_:PQ aA w' q K' p'
 aJ:aP (λn=>K n\/n=q) w w'
 foot:∀n,K' n->K n\/w.heap.size<=n
variable{w:acL}
def bG.co {aA:Nat}{w':acL}{q:Nat}{K K':Nat->Prop}{p':Po}(h:bG aA w q K w' K' p'):VG aA w q K w' K' p':=⟨h.at_,h.aJ.mono (λ_ _ e=>ack e),h.foot⟩
def CoP (aA:Nat)(w:acL)(q:Nat)(K:Nat->Prop)(p:Po)(G:FP.Ft->Prop)(e0:ah8)(w':acL):Prop :=
 ∃(er:Int) (K':Nat->Prop),e0=ab4 (vi er)/\((er=0/\VG aA w q K w' K' {p with M:=[],B:=p.get,G:=G})\/(er=40/\VG aA w q K w' K' {p with G:=G}))
structure Cm (aA:Nat)(w:acL)(f:Nat)(X:dm)(t a e:Nat)(p:Po)(wr:acL)(X':dm):Prop where
 goes:aQ aA w f X wr X'
 gg:FP.GG t a e X'.view
 see:∀m:Nat,m≠0->p.there m=true->MP.has p.M m=false->X'.view.see m=X.view.see m
variable{b0 n:Nat}{l:List Int}{i:Nat}
def Ql {a:Option Addr}{c:Nat}(h:dZ w b0 (aco a n c) l)(hi:i<l.length):∃g,a=.some ⟨g,0,.none⟩:=by
 rcases h.2 with⟨_,h0⟩|⟨g,cap,cur,e,_⟩;omega;injection e with e;exact⟨g,e⟩
def Qm {g cap:Nat}(h:dZ w b0 (aco (some ⟨g,0,none⟩) l.length cap) l)(hi:i<l.length):w.cell? ⟨g,i,none⟩=some (vi (l.getD i 0)):=by
 have hc:=acL.ownsRow.cellAt h i aa;rw[hc];simp[afh,hi]
def LW {v:acK}(h:dZ w b0 v l):∃a c,v=aco a l.length c:=by
 rcases h.2 with⟨rfl,h0⟩|⟨g,cap,cur,rfl,_⟩;exact⟨none,0,by rw[h0]⟩;exact⟨_,_,rfl⟩
section
variable{aA:Nat}{w wr w':acL}{f q:Nat}{X X':dm}{Y:Bi}{p:Po}{t a e:Nat}{K:Nat->Prop}
def Cm.old (h:Cm aA w f X t a e p wr X')(k:acN wr.heap.size wr w'):Cm aA w f X t a e p w' X':=⟨h.goes.old k,h.gg,h.see⟩
def Cm.fit (h:Cm aA w f X t a e p wr X'):X'.Fit:=h.gg.sound.fit
def Cm.drop (h:Cm aA w f X t a e p wr X'){X2:dm}(hg:aQ aA wr f X' w' X2)(hv:X2.view=(X'.view.drop n).2)(h1:n≠0)(h2:X'.view.see n≠none)(ht:p.there n=false) :
  Cm aA w f X t a e p w' X2/\(X'.view.drop n).1=0/\∀m,m≠n->X2.view.see m=X'.view.see m:=by
 obtain⟨k1,k2,k3,_⟩:=h.gg.drop n h1 h2;refine⟨⟨h.goes.trans hg,by rw[hv];exact k2,λm hm0 hm hd=>?_⟩,k1,λm hm=>by rw[hv];exact k3 m hm⟩;rw[hv,k3 m (λe=>by rw[e,ht]at hm;cases hm)];exact h.see m hm0 hm hd
def iy.Gz (h:iy aA w q Y X p)(g:aQ aA w Y.f X wr X'):fE wr q Y:=h.pl.aJ g.aJ h.OT
def VH:∀{α:Type} (m:Mp α) (x y:Int),x<=y->m.Pairwise (λu v=>u.1<v.1)->(∀z∈m,x<=z.1/\z.1<y)->(m.length:Int)<=y-x
 |_,[],x,y,h,_,_=>by simp;omega
 |_,z::m,x,y,h,hp,hb=>by
  obtain⟨h1,h2⟩:=List.pairwise_cons.1 hp
  have hx:=hb z ai
  have:=VH m (z.1+1) y aa h2 (λu hu=>⟨by have:=h1 u hu;omega,(hb u (List.mem_cons_of_mem _ hu)).2⟩)
  simp only[adV]
  omega
def tO (h:p.ok){n:Int}(hn:p.there n=true):1<=n/\n<=p.T+p.P:=by
 have hd:=h.bI;rcases Po.cz.1 hn with h1|h1;omega;have:=Po.dF.1 (h.jf n h1);omega
def iy.row (h:iy aA w q Y X p){n:Int}(hn:MP.has Y.D n=true):∃g c l,MP.get Y.D n=some (aco (some ⟨g,0,none⟩) 64 c)/\MP.get p.M n=some l/\l.length=64/\dx aA w (some ⟨g,0,none⟩) l/\p.there n=true:=by
 rcases h.rows n with⟨h1,_⟩|⟨g,c,l,h1,h2,h3,_,_,h6⟩;unfold MP.has at hn;rw[h1]at hn;cases hn;exact⟨g,c,l,h1,h2,h3,h6,h.ok.Bp n (by unfold MP.has;rw[h2];rfl)⟩
def iy.aju (h:iy aA w q Y X p):Y.D.length<=8191:=by
 have hd:=h.ok.bI;have:=VH Y.D 1 (p.T+p.P+1) aa h.pl.iI.ok (λz hz=>by
  have h1:MP.has Y.D z.1=true:=by unfold MP.has;rw[MP.dR h.pl.iI.ok hz];rfl
  obtain⟨_,_,_,_,_,_,_,h2⟩:=h.row h1
  have:=tO h.ok h2
  omega)
 omega
def iy.cm (h:iy aA w q Y X p){a0 e0 A E:Nat}(hG:p.G=FP.GG t a0 e0)(ht:p.T+p.P<=t)(hc:Cm aA w Y.f X t a e p wr X')(hA:FP.GG t A E X'.view) :
  bG aA w q (foot Y X) wr (foot Y X') {p with G:=FP.GG t A E}:=by
 have hg0:=h.gh;rw[hG]at hg0;have hlo:=h.ft.loose;refine⟨⟨Y,X',⟨h.Gz hc.goes,hc.goes.at_,hc.fit,λn e1 e2=>?_,h.low,h.lay,h.used,λn=>(h.rows n).aJ hc.goes.aJ hlo,λn h1 h2=>?_,⟨h.ok.bI,h.ok.MQ,h.ok.V6,h.ok.jf,h.ok.Bp,h.ok.len,λF F' e1 h1=>h1.still e1⟩,hA⟩,rfl⟩,hc.goes.aJ.mono (λn _ e1=>acm (acm e1)),λn e1=>?_⟩;rcases hc.goes.foot n e2 with e3|e3;exact h.OT n e1 e3;have:=h.pl.lt n e1;omega;have h3:=tO h.ok h1;have h4:1<=n/\n<=t:=aa;exact FP.zX hg0.sound hA.sound (hg0.log n h4.1 h4.2) (hA.log n h4.1 h4.2) (hc.see n aa h1 h2) (h.holds n h1 h2)
 rcases e1 with e1|e1|e1;exact ack (ack e1);exact ack (acm (ack e1));rcases hc.goes.foot n e1 with e3|e3;exact ack (acm (acm e3));exact acm e3
def iy.done {w5:acL}{X2:dm}{A E:Nat}(h:iy aA w q Y X p)(hg:aQ aA w Y.f X w5 X2)(hA:FP.GG t A E X2.view)(hall:∀n:Nat,p.there n=true->Has X2.view n (p.get n)) :
  VG aA w q (foot Y X) ((w5.alloc (.map #[] 0)).setCell ⟨q,7,none⟩ (.map (some w5.heap.size))) (foot {Y with bd:=w5.heap.size,D:=[]} X2) {p with M:=[],B:=p.get,G:=FP.GG t A E}:=by
 have hp5:=h.Gz hg;have hb6:acN w5.heap.size w5 (w5.alloc (.map #[] 0)):=ax;have hmd:bz (w5.alloc (.map #[] 0)) w5.heap.size .i64 (λv:acK=>v) []:=bz.made w5 .i64 (λv:acK=>v);have hC:aP (λn=>n=q) (w5.alloc (.map #[] 0)) ((w5.alloc (.map #[] 0)).setCell ⟨q,7,none⟩ (.map (some w5.heap.size))):=aP.set (F:=λn=>n=q) _ (p:=⟨q,7,none⟩) rfl _;have Dx:=(hp5.obj.old hb6).bB 7 (.map (some w5.heap.size));have MI:=hp5.obj.lt;have hul:=hp5.used.lt;have hqw:=h.pl.obj.lt;have huw:=h.pl.used.lt;have hsz:=hg.size;have OZ:∀n,(n=q\/n=Y.bu)->¬X2.foot Y.f n:=λn e1 e2=>by
  rcases hg.foot n e2 with e3|e3;refine h.OT n ?_ e3;rcases e1 with e1|e1;exact ack e1;exact acm (ack e1);rcases e1 with e1|e1<;>omega
 have hft:=(hg.at_.old hb6).aJ hC (λn e1=>by rw[e1];exact Loose.blk h.low.2.2 (hp5.obj.old hb6)) (λn e1 e2=>OZ n (ack e2) e1);refine⟨⟨{Y with bd:=w5.heap.size,D:=[]},X2,⟨⟨Dx,(hp5.used.old hb6).aJ hC (λe1=>hp5.used.dM hp5.obj e1),hmd.aJ hC aa,by dsimp only;omega⟩,hft,hA.sound.fit,λn e1 e2=>?_,⟨h.low.1,by have:=h.low.2.2;dsimp only;omega,h.low.2.2⟩,h.lay,h.used,λn=>ack ⟨rfl,rfl⟩,λn h1 _=>hall n h1,⟨h.ok.bI,h.ok.MQ,List.Pairwise.nil,h.ok.jf,λn h1=>(by cases h1),λn l h1=>(by cases h1),λF F' e1 h1=>h1.still e1⟩,hA⟩,rfl⟩,?_,λn e1=>?_⟩;rcases e1 with e1|e1|e1
 exact OZ n (ack e1) e2;exact OZ n (acm e1) e2;have:=hg.at_.lt n e2;dsimp only at e1;omega;exact((hg.aJ.mono (F':=λn=>foot Y X n\/n=q) (λn _ e1=>ack (acm (acm e1)))).below hb6).trans hC (λn _ e1=>acm e1);rcases e1 with e1|e1|e1;exact ack (ack e1);dsimp only at e1;exact acm aa;rcases hg.foot n e1 with e3|e3;exact ack (acm (acm e3));exact acm e3
def LX (h0:PQ aA w q K p)(hG:p.G=FP.GG t a e)(ht:p.T+p.P<=t)(ha:a<1000000000000)(he:e<1000000000000)(at0:Option Addr)(l:List Nat)(c:Nat)(hr:dx aA w at0 l)(hl:l.length=56) :
  ac4 prog 44 #[ptr q,.slice at0 l.length c] w (CoP aA w q K p (FP.GG t (a+9000) (e+1))):=by
 obtain⟨Y,X,h,rfl⟩:=h0;have H:=az h;have HR:=az hr;have Zt:Hid (Cm aA w Y.f X t a e p w X):=az ⟨aQ.refl h.ft,by have:=h.gh;rwa[hG]at this,λ_ _ _ _=>rfl⟩;have AX:=az hG;have HT:=az ht;have lX:=az hr.row.small;have c0:w.cell? ⟨q,0,none⟩=some (ptr Y.f):=h.pl.obj.cell 0;have c5:w.cell? ⟨q,5,none⟩=some (vi 64):=by
  have h1:w.cell? ⟨q,5,none⟩=some (vi Y.sz):=h.pl.obj.cell 5;rwa[h.lay.2.2.2.2]at h1
 clear h hr hG ht;rw[hl];have HL:=az hl;clear hl;go_in;go_wp2_with (first
  |(go_at_call 71;refine(us.oI).mono ?_;rintro e w1 ⟨rfl,hw1⟩
    have HB1:Hid (acN w.heap.size w w1):=az (by rw[hw1];exact ax)
    have lD:Hid (aD w1 w.heap.size 92 #[ptr Y.f]):=az (by rw[hw1];exact aD.new _ _ _)
    have yx:=az (Zt.o.old HB1.o)
    have Tk:=az (us.Gy yx.o.goes.at_ yx.o.fit lD.o)
    clear hw1)
  |(go_at_call 70;refine(us.wO aa (dI func105 ah rfl) Tk.o).mono ?_;rintro e w2 ⟨v,ss,rfl,hS,hu,hb2⟩
    obtain⟨a2,c2,hv⟩:=us.gB.form2 hu
    obtain⟨n2,hn2⟩:∃n2,ss.length=n2:=⟨_,rfl⟩
    have Kq:=az hn2
    rw[hn2]at hv
    subst hv
    have hn8:n2<=8192:=by rw[<-hn2];exact hS.2.1
    clear hn2
    have DC:=az hS
    have II:=az hu
    have JQ:=az (yx.o.old hb2)
    clear hS hu hb2))
 have Nc:Hid (∀n,X.foot Y.f n->n<w.heap.size):=az H.o.ft.lt;have zi:Hid (Cm aA w Y.f X t a e p w2 X/\(∀n∈ss.drop 0,n≠0/\X.view.see n≠none)/\us.gB w2 w1.heap.size (.slice a2 n2 c2) ss/\(∀g,(aco a2 n2 c2).ownBlock=some g->¬X.foot Y.f g/\g<w2.heap.size)) :=
  az ⟨JQ.o,λn hn=>FP.VE X.view n (DC.o.2.2 n (by simpa using hn)),II.o,λg eg=>⟨λe2=>by
   have h1:=Nc.o g e2
   have h2:=(II.o.lt eg).2.1
   have h3:=HB1.o.size
   omega,(II.o.lt eg).1⟩⟩
 have GQ:=az DC.o.1;clear Tk lD yx JQ II DC c0 c5;go_loopg [6,29] n2 (λk _ v29 wr=>∃(X':dm) (j:Nat),v29=vi j/\j<=n2/\n2-j<=k/\Hid (Cm aA w Y.f X t a e p wr X'/\(∀n∈ss.drop j,n≠0/\X'.view.see n≠none)/\us.gB wr w1.heap.size (.slice a2 n2 c2) ss/\(∀g,(aco a2 n2 c2).ownBlock=some g->¬X'.foot Y.f g/\g<wr.heap.size)))
 case atStart=>exact⟨X,0,rfl,Nat.zero_le _,aa,zi⟩
 case round =>
  clear zi;obtain⟨X',j,rfl,hj,hjk,hrd⟩:=hrel;have bK:=az hrd.o;clear hrd;by_cases hlt:j<n2
  ·obtain⟨x,hx⟩:∃x,ss.getD j 0=x:=⟨_,rfl⟩;have hlt2:j<ss.length:=by rw[Kq.o];exact hlt
   have hdr:ss.drop j=x::ss.drop (j+1):=by
    rw[List.drop_eq_getElem_cons hlt2,<-hx];simp[afh,hlt2]
   have hxs:=bK.o.2.1 x (by rw[hdr];simp);have VF:=bK.o.1.gg.seen x hxs.1 hxs.2;have hx8:x<8192:=by have:=(bK.o.1.gg.sound.fit.aB VF).2;omega
   obtain⟨g,hg⟩:=us.gB.some bK.o.2.2.1 hlt2;have c3:wr.cell? ⟨g,j,none⟩=some (vw x):=by
    have h1:=bK.o.2.2.1;rw[hg,<-Kq.o]at h1;rw[<-hx];exact h1.ur.cell hlt2
   subst hg;have q1:(j:Int)<(n2:Int):=aa;have q2:adk.wrap ((j:Int)+1)=(j:Int)+1:=adl _ aa;have q3:adk.wrap (x:Int)=(x:Int):=adl _ aa;have qL:=az (H.o.Gz bK.o.1.goes);have HDR:=az hdr;have HXS:=az hxs;have hte:=H.o.mM x;have c0:wr.cell? ⟨q,0,none⟩=some (ptr Y.f):=qL.o.obj.cell 0;have TH:=az (pl.dP qL.o x);rw[hte]at TH;clear hx hdr hxs VF hte;cases hpt:p.there x with
   |true =>
    rw[hpt]at TH;clear hpt;go_wp2_with (go_at_call 60;refine TH.o.mono ?_;rintro e w3 ⟨rfl,rfl⟩);go_roundg (n2-(j+1))
    case measure=>omega
    case rel=>exact⟨X',j+1,by first|rfl|go_num|(congr 1;omega),aa,aa,az ⟨bK.o.1,λn hn=>bK.o.2.1 n (by rw[HDR.o];exact List.mem_cons_of_mem _ hn),bK.o.2.2⟩⟩
   |false =>
    rw[hpt]at TH;have Bq:=az hpt;clear hpt;have HDA:=az (ft.rq bK.o.1.goes.at_ bK.o.1.fit x aa);go_wp2_with (first
     |(go_at_call 60;refine TH.o.mono ?_;rintro e w3 ⟨rfl,rfl⟩)
     |(go_at_call 72;refine HDA.o.mono ?_;rintro e w4 ⟨X2,rfl,hg4,hv4⟩
       obtain⟨k1,k2,k3⟩:=bK.o.1.drop hg4 hv4 HXS.o.1 HXS.o.2 Bq.o
       dsimp only
       rw[k2]
       have HR4:Hid (Cm aA w Y.f X t a e p w4 X2/\(∀n∈ss.drop (j+1),n≠0/\X2.view.see n≠none)/\us.gB w4 w1.heap.size (.slice (some ⟨g,0,none⟩) n2 c2) ss/\(∀g',(aco (some ⟨g,0,none⟩) n2 c2).ownBlock=some g'->¬X2.foot Y.f g'/\g'<w4.heap.size)) :=
        az ⟨k1,λn hn=>by
         have h1:=bK.o.2.1 n (by rw[HDR.o];exact List.mem_cons_of_mem _ hn)
         have h2:n≠x:=λe2=>by
          have h3:(ss.drop j).Nodup:=(List.drop_sublist j ss).nodup GQ.o
          rw[HDR.o]at h3
          exact(List.nodup_cons.1 h3).1 (by rw[<-e2];exact hn)
         exact⟨h1.1,by rw[k3 n h2];exact h1.2⟩,bK.o.2.2.1.aJ hg4.aJ (λg' e2=>(bK.o.2.2.2 g' e2).1),λg' e2=>⟨λe3=>by
          rcases hg4.foot _ e3 with e4|e4
          exact(bK.o.2.2.2 g' e2).1 e4
          have:=(bK.o.2.2.2 g' e2).2;omega,by have:=(bK.o.2.2.2 g' e2).2;have:=hg4.size;omega⟩⟩
       clear hg4 hv4 k1 k2 k3))
    go_roundg (n2-(j+1))
    case measure=>omega
    case rel=>exact⟨X2,j+1,by first|rfl|go_num|(congr 1;omega),aa,aa,HR4⟩
  obtain rfl:j=n2:=aa;have qL:=az (H.o.Gz bK.o.1.goes);have HDM:=az (H.o.aju);have c0:wr.cell? ⟨q,7,none⟩=some (.map (some Y.bd)):=qL.o.obj.cell 7;have Ij:=az bK.o.1;clear hlt hj hjk bK Kq GQ hn8;go_wp2_with (first
   |(go_at_call 74;refine(uj.Cu Y.bd).mono ?_;rintro e w3 ⟨rfl,hw3⟩
     have HB3:Hid (acN wr.heap.size wr w3):=az (by rw[hw3];exact ax)
     have qF:Hid (aD w3 wr.heap.size 94 #[.map (some Y.bd)]):=az (by rw[hw3];exact aD.new _ _ _)
     have HKG:=az (uj.keys_gives (N:=20000) (qL.o.iI.old HB3.o) qF.o (by have:=HDM.o;omega))
     have jU:Hid (∀ss:List Int,ss.Perm (Y.D.map af5)->ss.length<1000000):=az (λss h=>by
      have h1:=h.length_eq
      rw[abT]at h1
      have:=HDM.o
      omega)
     clear hw3)
   |(go_at_call 73;refine(uj.ve aa jU.o (dI func111 ah rfl) HKG.o).mono ?_;rintro e w4 ⟨v,ss2,l2,rfl,hS,hp2,hu,hb4⟩
     obtain⟨a3,c3,hv⟩:=LW hu
     obtain⟨n3,Y1⟩:∃n3,l2.length=n3:=⟨_,rfl⟩
     have Y9:=az Y1
     rw[Y1]at hv
     subst hv
     have Lj:Hid (l2.Perm (Y.D.map af5)):=az (hp2.trans hS)
     have hn8:n3<=8191:=by
      have h1:=Lj.o.length_eq
      rw[abT]at h1
      have:=HDM.o
      omega
     clear Y1
     have HU4:=az hu
     have QW:=az (Ij.o.old (HB3.o.trans (hb4.mono HB3.o.size)))
     have Tg:Hid (w.heap.size<=w3.heap.size/\wr.heap.size<=w3.heap.size):=az ⟨abX Ij.o.goes.size HB3.o.size,HB3.o.size⟩
     have OV:Hid (∀n,X'.foot Y.f n->n<wr.heap.size):=az Ij.o.goes.at_.lt
     clear hS hp2 hu hb4))
  have HR1:Hid (Cm aA w Y.f X t (a+0) e p w4 X'/\(∀n:Nat,(n:Int)∈l2.take 0->(1<=n/\n<=t)/\Has X'.view n (p.get n))/\dZ w4 w3.heap.size (.slice a3 n3 c3) l2/\(∀g,(aco a3 n3 c3).ownBlock=some g->¬X'.foot Y.f g/\g<w4.heap.size)) :=
   az ⟨QW.o,λn hn=>by simp at hn,HU4.o,λg eg=>⟨λe2=>by
    have h1:=OV.o g e2
    have h2:=(HU4.o.lt eg).2.1
    have h3:=Tg.o.2
    omega,(HU4.o.lt eg).1⟩⟩
  clear HKG jU qF QW HU4 OV qL Ij c0 HB3;go_loopg [9,54] n3 (λk _ v54 wr=>∃(X':dm) (j:Nat),v54=vi j/\j<=n3/\n3-j<=k/\Hid (Cm aA w Y.f X t (a+j) e p wr X'/\(∀n:Nat,(n:Int)∈l2.take j->(1<=n/\n<=t)/\Has X'.view n (p.get n))/\dZ wr w3.heap.size (.slice a3 n3 c3) l2/\(∀g,(aco a3 n3 c3).ownBlock=some g->¬X'.foot Y.f g/\g<wr.heap.size)))
  case atStart=>exact⟨X',0,rfl,Nat.zero_le _,aa,HR1⟩
  case round =>
   clear HR1;obtain⟨X',j,rfl,hj,hjk,hrd⟩:=hrel;have bK:=az hrd.o;clear hrd;by_cases hlt:j<n3
   ·have hlt2:j<l2.length:=by rw[Y9.o];exact hlt
    obtain⟨xi,hx⟩:∃x,l2.getD j 0=x:=⟨_,rfl⟩;have hmem:xi∈Y.D.map af5:=Lj.o.subset (by rw[<-hx];simp only[afh,aaj hlt2,Option.getD_some];exact List.getElem_mem hlt2);have hhas:MP.has Y.D xi=true:=by
     obtain⟨z,hz,ez⟩:=aay.1 hmem;rw[<-ez];unfold MP.has;rw[MP.dR H.o.pl.iI.ok hz];rfl
    obtain⟨gb,cb,lb,hgd,hgm,hlb,hsr,hth⟩:=H.o.row hhas;have DJ:=tO H.o.ok hth;obtain⟨n,rfl⟩:∃n:Nat,xi=n:=⟨xi.toNat,aa⟩;have hdm:=H.o.ok.bI;have hnt:1<=n/\n<=t/\n<8192:=by have:=HT.o;omega
    obtain⟨r,hwq,hwe⟩:=bK.o.1.gg.write aa aa hnt.1 hnt.2.1 hlb hsr.row.small;obtain⟨g,hg⟩:=Ql bK.o.2.2.1 hlt2;have c3':wr.cell? ⟨g,j,none⟩=some (vi n):=by
     have h1:=bK.o.2.2.1;rw[hg,<-Y9.o]at h1;rw[<-hx];exact Qm h1 hlt2
    subst hg;have q1:(j:Int)<(n3:Int):=aa;have q2:adk.wrap ((j:Int)+1)=(j:Int)+1:=adl _ aa;have q3:acS.u32.wrap (n:Int)=(n:Int):=by simp[acS.wrap,acS.bits,acS.signed];omega
    have qL:=az (H.o.Gz bK.o.1.goes);have Q7:=az hnt;have HWE:=az hwe;have O0:=az hgm;have Ig:=az hlb;have HXJ:Hid (l2.take (j+1)=l2.take j++[(n:Int)]):=az (by
     rw[List.take_succ_eq_append_getElem hlt2,<-hx]
     simp[afh,hlt2])
    have HSW:Hid (FP.Sound X'.view):=az bK.o.1.gg.sound;have hbw:aA<=wr.heap.size:=by have:=H.o.low;have:=qL.o.obj.lt;omega
    have HFD:=az (bK.o.1.goes.old au);have MJ:=az (ft.oM (w:=wr.drew) HFD.o.at_ HSW.o hbw n aa (some ⟨gb,0,none⟩) lb cb ((hsr.fD bK.o.1.goes.aJ H.o.ft.loose).old au) aa r hwq);rw[hlb]at MJ;have HLK:Hid ((Instr.lookup 94 (.map (some Y.bd)) (vi n) false).run prog wr.drew=.ok (.slice (some ⟨gb,0,none⟩) 64 cb) wr.drew):=az (by
     have h1:=(qL.o.old au).iI.lookup (P:=prog) (w:=wr.drew) underlying94 underlying3 (Bj _) (n:Int)
     rw[hgd]at h1
     exact h1)
    clear hx hmem hhas hgd hgm hlb hsr hth DJ hdm hnt hwq hwe hlt2;go_upto_region 16 with fail;have d0:wr.cell? ⟨q,0,none⟩=some (ptr Y.f):=qL.o.obj.cell 0;have d7:wr.cell? ⟨q,7,none⟩=some (.map (some Y.bd)):=qL.o.obj.cell 7;have HS:Hid (wr.drew.cell? ⟨q,0,none⟩=some (ptr Y.f)/\wr.drew.cell? ⟨q,7,none⟩=some (.map (some Y.bd))):=az ⟨d0,d7⟩;have nS:Hid (∀W X2,aQ aA wr.drew Y.f X' W X2->(W.cell? ⟨q,0,none⟩=some (ptr Y.f)/\W.cell? ⟨q,7,none⟩=some (.map (some Y.bd)))) :=
     az (λW X2 k=>⟨(H.o.Gz (HFD.o.trans k)).obj.cell 0,(H.o.Gz (HFD.o.trans k)).obj.cell 7⟩)
    have hlk:=HLK.o;go_cut [10,54] from 54 to 74 (λv10 v54 wx=>∃X2,v10=vi r.1/\v54=vi j/\Hid (aQ aA wr Y.f X' wx X2/\X2.view=r.2))
    case first =>
     go_region_held3 (λw'=>w'.cell? ⟨q,0,none⟩=some (ptr Y.f)/\w'.cell? ⟨q,7,none⟩=some (.map (some Y.bd)))
      (first|exact HS.o|exact nS.o _ _ (by assumption))
      (first|(go_at_call 75;refine MJ.o.mono ?_;rintro e w5 ⟨X2,rfl,hg5,hv5⟩))
     all_goals
      go_wp2;go_meet;exact⟨X2,rfl,rfl,az ⟨(aQ.aX bK.o.1.goes.at_ au).trans hg5,hv5⟩⟩
    case rest =>
    obtain⟨X2,rfl,rfl,hcut⟩:=hcut;have HG2:=az hcut.o.1;have Jr:=az hcut.o.2;clear hcut HS nS hlk d0 d7 MJ HLK HFD c3';generalize wc=w5 at*;have HOW:Hid (dZ w5 w3.heap.size (.slice (some ⟨g,0,none⟩) n3 c3) l2/\(∀g',(aco (some ⟨g,0,none⟩) n3 c3).ownBlock=some g'->¬X2.foot Y.f g'/\g'<w5.heap.size)) :=
     az ⟨bK.o.2.2.1.aJ HG2.o.aJ (λg' e2=>(bK.o.2.2.2 g' e2).1),λg' e2=>⟨λe3=>by
      rcases HG2.o.foot _ e3 with e4|e4
      exact(bK.o.2.2.2 g' e2).1 e4
      have:=(bK.o.2.2.2 g' e2).2;omega,by have:=(bK.o.2.2.2 g' e2).2;have:=HG2.o.size;omega⟩⟩
    rcases HWE.o with⟨r0,rg,ro,rs⟩|⟨r0,rg,ro⟩
    ·have ql:Hid (Cm aA w Y.f X t (a+(j+1)) e p w5 X2/\(∀m:Nat,(m:Int)∈l2.take (j+1)->(1<=m/\m<=t)/\Has X2.view m (p.get m))/\dZ w5 w3.heap.size (.slice (some ⟨g,0,none⟩) n3 c3) l2/\(∀g',(aco (some ⟨g,0,none⟩) n3 c3).ownBlock=some g'->¬X2.foot Y.f g'/\g'<w5.heap.size)):=az (by
      have hg:=bK.o.1.gg
      have hgn:p.get n=lb:=by unfold Po.get;rw[O0.o];rfl
      have hsm:∀y∈lb,y<256:=(H.o.ok.len n lb O0.o).2
      rw[<-Jr.o]at rg ro rs
      refine⟨⟨bK.o.1.goes.trans HG2.o,rg,λm hm0 hm1 hm2=>?_⟩,λm hm=>?_,HOW.o⟩
      have hne:m≠n:=λe2=>by
       rw[e2]at hm2
       unfold MP.has at hm2
       rw[O0.o]at hm2
       cases hm2
      rw[ro m hne]
      exact bK.o.1.see m hm0 hm1 hm2
      by_cases e2:m=n
      subst e2
      rw[hgn]
      exact⟨⟨Q7.o.1,Q7.o.2.1⟩,FP.Qk rg.sound (rg.log m Q7.o.1 Q7.o.2.1) ⟨hg.seq.1,by have:=hg.seq.2;omega⟩ ⟨hg.aM.1,by have:=hg.aM.2;omega⟩ Q7.o.2.2 Ig.o hsm rs⟩
      rw[HXJ.o]at hm
      rcases List.mem_append.1 hm with hm|hm
      obtain⟨h1,h2⟩:=bK.o.2.1 m hm
      exact⟨h1,FP.zX hg.sound rg.sound (hg.log m h1.1 h1.2) (rg.log m h1.1 h1.2) (ro m e2) h2⟩
      simp at hm
      omega)
     clear rg ro rs bK;rw[r0];clear r0;go_wp2_with fail;go_roundg (n3-(j+1))
     case measure=>omega
     case rel=>exact⟨X2,j+1,by first|rfl|go_num|(congr 1;omega),aa,aa,ql⟩
    have HCM:Hid (Cm aA w Y.f X t (a+j) e p w5 X2):=az ⟨bK.o.1.goes.trans HG2.o,by rw[Jr.o];exact rg,λm hm0 hm1 hm2=>by rw[Jr.o,ro m];exact bK.o.1.see m hm0 hm1 hm2⟩;clear rg ro bK;rw[r0];clear r0;go_wp2;go_ret;exact⟨40,foot Y X2,rfl,.inr ⟨rfl,(H.o.cm AX.o HT.o HCM.o (HCM.o.gg.mono aa aa)).co⟩⟩
   obtain rfl:j=n3:=aa;have qL:=az (H.o.Gz bK.o.1.goes);have d0:wr.cell? ⟨q,0,none⟩=some (ptr Y.f):=qL.o.obj.cell 0;have hbw:aA<=wr.heap.size:=by have:=H.o.low;have:=qL.o.obj.lt;omega
   obtain⟨r,QQ,hsg,hse,hss⟩:=bK.o.1.gg.ajt aa aa HL.o lX.o;have HSL:=az (ft.Seal_any bK.o.1.goes.at_ bK.o.1.gg.sound hbw at0 l c (HR.o.fD bK.o.1.goes.aJ H.o.ft.loose) (by have:=HL.o;omega) r QQ);rw[HL.o]at HSL;have HSG:=az hsg;have DC:=az hss;clear QQ hsg hss;go_upto_region 21 with (go_at_call 76;refine HSL.o.mono ?_;rintro e w5 ⟨X2,rfl,hg5,hv5⟩);have HG2:=az hg5;have Jr:=az hv5;clear hg5 hv5 HSL;have HCM:Hid (Cm aA w Y.f X t (a+j+1) (e+1) p w5 X2):=az ⟨bK.o.1.goes.trans HG2.o,by rw[Jr.o];exact HSG.o,λm hm0 hm1 hm2=>by rw[Jr.o,DC.o m hm0];exact bK.o.1.see m hm0 hm1 hm2⟩
   rcases hse with r0|r0
   ·have zq:Hid (∀n:Nat,p.there n=true->Has X2.view n (p.get n)):=az (λn hn=>by
     have hr:=tO H.o.ok hn
     have hr2:1<=n/\n<=t:=by have:=HT.o;omega
     have hg:=bK.o.1.gg
     have hg2:=HCM.o.gg
     have acf:X2.view.see n=X'.view.see n:=by rw[Jr.o];exact DC.o n aa
     cases hm:MP.has p.M n with
     |true =>
      have hD:MP.has Y.D n=true:=by
       rcases H.o.rows n with⟨_,h2⟩|⟨_,_,_,h1,_⟩
       unfold MP.has at hm;rw[h2]at hm;cases hm
       unfold MP.has;rw[h1];rfl
      have hmem:(n:Int)∈l2:=Lj.o.symm.subset (by
       unfold MP.has at hD
       obtain⟨v,hv⟩:=aeV.1 hD
       exact aay.2 ⟨_,MP.get_mem hv,rfl⟩)
      obtain⟨_,h2⟩:=bK.o.2.1 n (by rw[<-Y9.o,List.take_length];exact hmem)
      exact FP.zX hg.sound hg2.sound (hg.log n hr2.1 hr2.2) (hg2.log n hr2.1 hr2.2) acf h2
     |false =>
      have hB:p.get n=p.B n:=by
       unfold MP.has at hm
       unfold Po.get
       cases hq:MP.get p.M n with
       |none=>rfl
       |some _=>rw[hq]at hm;cases hm
      have hg0:=H.o.gh
      rw[AX.o]at hg0
      rw[hB]
      exact FP.zX hg0.sound hg2.sound (hg0.log n hr2.1 hr2.2) (hg2.log n hr2.1 hr2.2) (HCM.o.see n aa hn hm) (H.o.holds n hn hm))
    have HP5:=az (H.o.Gz HCM.o.goes);have GN:Hid (acN w5.heap.size w5 (w5.alloc (.map #[] 0))):=az ax;have f7:=(HP5.o.obj.old GN.o).frozen 7;have c7:(w5.alloc (.map #[] 0)).cell? ⟨q,7,none⟩=some (.map (some Y.bd)):=(HP5.o.obj.old GN.o).cell 7;have hmk:(Instr.makeMap 94 none).run prog w5=.ok (.map (some w5.heap.size)) (w5.alloc (.map #[] 0)):=ah;have HDN:=az (H.o.done HCM.o.goes (HCM.o.gg.mono (a':=a+9000) (e':=e+1) aa aa) zq.o);rw[r0];clear r0 d0 bK HSG DC zq qL;go_wp2;go_ret;exact⟨0,_,rfl,.inl ⟨rfl,HDN.o⟩⟩
   rw[r0];clear r0 d0 bK HSG DC qL;go_wp2;go_ret;exact⟨40,foot Y X2,rfl,.inr ⟨rfl,(H.o.cm AX.o HT.o HCM.o (HCM.o.gg.mono aa aa)).co⟩⟩
end
end po
namespace lw
open RowKit mgr ft ino po df
def Cv {aA:Nat}{w:acL}{q:Nat}{K:Nat->Prop}{p:Po}(h:PQ aA w q K p):ac4 prog 24 #[ptr q] w λe w'=>e=ab4 (.agg #[vi p.T,vi (p.T+1),vi p.P,vi p.I])/\acN w.heap.size w w':=by
 obtain⟨Y,X,h,rfl⟩:=h;have HB:Hid (acN w.heap.size w (w.alloc (ach #[vi 0,vi 0,vi 0,vi 0] 65))):=az ax;have HF:=az (aD.new w 65 #[vi 0,vi 0,vi 0,vi 0]);have HP:=az (h.pl.old HB.o);obtain⟨h1,h2,h3,h4,_⟩:=h.lay;obtain⟨F1,hF1⟩:∃F,F=p.T+1:=⟨_,rfl⟩;rw[<-hF1]at h2 ⊢;clear hF1;go_in;go_upto_region 1 with fail;change Code.wp _ _ _ _ (w.alloc (ach #[vi 0,vi 0,vi 0,vi 0] 65));generalize w.alloc (ach #[vi 0,vi 0,vi 0,vi 0] 65)=w1 at*;have e1:w1.cell? ⟨q,1,none⟩=some (vi p.T):=by have e:=HP.o.obj.cell 1;change w1.cell? ⟨q,1,none⟩=some (vi Y.T) at e;rwa[h1]at e
 have e2:w1.cell? ⟨q,2,none⟩=some (vi F1):=by have e:=HP.o.obj.cell 2;change w1.cell? ⟨q,2,none⟩=some (vi Y.F) at e;rwa[h2]at e
 have e3:w1.cell? ⟨q,3,none⟩=some (vi p.P):=by have e:=HP.o.obj.cell 3;change w1.cell? ⟨q,3,none⟩=some (vi Y.P) at e;rwa[h3]at e
 have e4:w1.cell? ⟨q,4,none⟩=some (vi p.I):=by have e:=HP.o.obj.cell 4;change w1.cell? ⟨q,4,none⟩=some (vi Y.I) at e;rwa[h4]at e
 obtain⟨⟨r0,r1,r2,r3⟩,f0,f1,f2,f3⟩:=lG HF.o;clear h h1 h2 h3 h4;go_wp2_with fail;obtain⟨hf,hw⟩:=pl.Td (vi p.T) (vi F1) (vi p.P) (vi p.I) HF.o HB.o aj;exact ac5 (pl.KA hf _ rfl) rfl ⟨rfl,hw⟩
def field_l2 (a b c d:Int)(w:acL):(Instr.field 65 (.agg #[vi a,vi b,vi c,vi d]) 2).run prog w=.ok (vi c) w:=ah
abbrev KQ (K:Nat->Prop)(q:Nat):Nat->Prop:=λn=>K n\/n=q
abbrev KZ (K:Nat->Prop)(q:Nat)(Z:Nat->Prop):Nat->Prop:=λn=>KQ K q n\/Z n
structure dL (aA:Nat)(w:acL)(q:Nat)(K:Nat->Prop)(p:Po)(is:Nat->PI.bF)(Fs:Nat->DF)(D:Nat->RF)(t a e:Nat)(Z:Nat->Prop):Prop where
 pq:PQ aA w q K p
 fl:Fl p 3 is Fs
 gg:p.G=FP.GG t a e/\p.T+p.P<=t
 df:∀k,k<3->pU w (KZ K q Z) (Fs k) (D k).ap (D k).N (D k).cp (D k).ab (D k).cb/\(D k).s=(Fs k).size
 ino:∀k,k<3->(is k).aL=1/\(is k).links=k
 zlt:∀n,Z n->n<w.heap.size
section
variable{aA:Nat}{w w':acL}{q:Nat}{K:Nat->Prop}{p:Po}{is:Nat->PI.bF}{Fs:Nat->DF}{D:Nat->RF}{t a e:Nat}{Z:Nat->Prop}
def dL.old (h:dL aA w q K p is Fs D t a e Z)(hb:acN w.heap.size w w'):dL aA w' q K p is Fs D t a e Z:=⟨h.pq.old hb,h.fl,h.gg,λk hk=>⟨(h.df k hk).1.old hb,(h.df k hk).2⟩,h.ino,λn e=>adN (h.zlt n e) hb.size⟩
def dL.ZW (h:dL aA w q K p is Fs D t a e Z):∀n,KQ K q n->n<w.heap.size:=λn e=>by
 rcases e with e|e
 exact h.pq.lt n e
 rw[e];exact h.pq.JV
def dL.loose (h:dL aA w q K p is Fs D t a e Z):∀n,KQ K q n->Loose aA w n:=λn e=>by
 rcases e with e|e
 exact h.pq.loose n e
 obtain⟨Y,X,hp,_⟩:=h.pq
 rw[e]
 exact Loose.blk hp.low.2.2 hp.pl.obj
def freeN (p:Po)(Fs:Nat->DF):Int:=p.P-aH (Fs 0).z-aH (Fs 1).z-aH (Fs 2).z
def dL.free (h:dL aA w q K p is Fs D t a e Z):p.aK=freeN p Fs:=by
 rw[h.fl.aK];unfold freeN;have:((ac9 3).map λj=>aH (Fs j).z).sum=aH (Fs 0).z+(aH (Fs 1).z+(aH (Fs 2).z+0)):=rfl;rw[this];omega
def JF {W:acL}{x:Nat}(h:aD W x 37 (aI (aO q is D)))(k:Nat)(hk:k<3):W.cell? ⟨x,34+k*4,none⟩=some (vi 64)/\W.cell? ⟨x,34+k*4+1,none⟩=some (vi (D k).s)/\W.cell? ⟨x,34+k*4+2,none⟩=some (aco (D k).ap (D k).N (D k).cp)/\W.cell? ⟨x,34+k*4+3,none⟩=some (aco (D k).ab (D k).N (D k).cb):=by
 have h1:=(gu h).1;rcases (by omega:k=0\/k=1\/k=2) with rfl|rfl|rfl;exact⟨h1 34 aa,h1 35 aa,h1 36 aa,h1 37 aa⟩;exact⟨h1 38 aa,h1 39 aa,h1 40 aa,h1 41 aa⟩;exact⟨h1 42 aa,h1 43 aa,h1 44 aa,h1 45 aa⟩
def leftN (P:Int)(Fs:Nat->DF):Nat->Int
 |0=>P
 |k+1=>leftN P Fs k-aH (Fs k).z
def zg (P:Int)(h:0<=P/\P<=8192)(Fs:Nat->DF):∀k:Nat,k<=3-> -(1096*(k:Int))<=leftN P Fs k/\leftN P Fs k<=8192
 |0,_=>by unfold leftN;omega
 |k+1,hk=>by
  have h1:=zg P h Fs k aa
  have h2:=kg (Fs k).z
  unfold leftN
  omega
def free_any {K2:Nat->Prop}(hq:PQ aA w q K p)(hdf:∀k,k<3->pU w K2 (Fs k) (D k).ap (D k).N (D k).cp (D k).ab (D k).cb/\(D k).s=(Fs k).size):ac4 prog 40 #[.agg (aI (aO q is D))] w λe w'=>e=ab4 (vi (freeN p Fs))/\acN w.heap.size w w':=by
 have HQ:=az hq;have Px:=az hdf;have hd:=hq.ok.bI;have Ig:=az (zg p.P aa Fs);have hf2:=field_l2;clear hq hdf hd;go_in;go_upto_region 1 with fail;refine mD λw1 HB1 lD=>?_
 generalize w.heap.size=x at lD ⊢;have c0:w1.cell? ⟨x,0,none⟩=some (ptr q):=(gu lD.o).1 0 aa;have HL:=az (Cv (HQ.o.old HB1.o));go_wp2_with fail;refine HL.o.mono ?_;rintro e' w2 ⟨rfl,hb2⟩;have HB2:=az (HB1.o.trans (hb2.mono HB1.o.size));have lM:=az (lD.o.old hb2);clear hb2 HL c0 lD;go_wp2_with fail;go_loopw [3,4] (λv3 v4 wr=>∃k:Nat,v4=vi k/\k<=3/\v3=vi (leftN p.P Fs k)/\Hid (acN w.heap.size w wr/\aD wr x 37 (aI (aO q is D)))) (λ_ k _=>3-(intOf k).toNat)
 case atStart=>exact⟨0,rfl,aa,rfl,az ⟨HB2.o,lM.o⟩⟩
 case round =>
  obtain⟨k,rfl,hk3,rfl,hin⟩:=hrel;have eX:=az hin.o;clear hin;by_cases hk:k<3
  ·have n1:(k:Int)<3:=aa;obtain⟨d0,d1,d2,d3⟩:=JF eX.o.2 k hk;obtain⟨hdf,hs⟩:=Px.o k hk;have zQ:=az (mi (hdf.old eX.o.1));rw[<-hs]at zQ;unfold qm at zQ;have hb:=Ig.o k aa;have ht:=kg (Fs k).z;have r1:adk.wrap (leftN p.P Fs k-(aH (Fs k).z:Int))=leftN p.P Fs (k+1):=by rw[adl _ aa];rfl
   have r2:adk.wrap ((k:Int)+1)=((k+1:Nat):Int):=by rw[adl _ aa];omega
   have HKK:=az hk;generalize leftN p.P Fs k=L at*;obtain⟨L2,hL2⟩:∃L,leftN p.P Fs (k+1)=L:=⟨_,rfl⟩;have HL2:=az hL2;rw[hL2]at r1;clear hL2;clear hdf hs hb ht hk hk3;go_wp2_with fail;refine zQ.o.mono ?_;rintro e' w3 ⟨rfl,hb3⟩;have ajx:Hid (acN w.heap.size w w3/\aD w3 x 37 (aI (aO q is D))):=az ⟨eX.o.1.trans (hb3.mono eX.o.1.size),eX.o.2.old hb3⟩;clear hb3 d0 d1 d2 d3 zQ;go_wp2;go_roundw
   case rel=>exact⟨k+1,by first|rfl|trivial|go_num|(congr 1;omega),HKK.o,by rw[HL2.o];first|done|rfl,ajx⟩
   case measure=>have:=HKK.o;simp[intOf];omega
  obtain rfl:k=3:=aa;have n1:¬((3:Nat):Int)<3:=aa;have HE:Hid (leftN p.P Fs 3=freeN p Fs):=az rfl;go_wp2;go_ret;exact⟨by rw[<-HE.o];first|done|rfl,eX.o.1⟩
end
end lw
namespace po
open RowKit mgr ft pl ino nd
section
variable{aA:Nat}{w w':acL}{q:Nat}{p:Po}{K:Nat->Prop}
def Qn (aA:Nat)(w:acL)(q:Nat)(K:Nat->Prop)(p:Po)(n:Int)(e:ah8)(w':acL):Prop :=
 e=ab4 (adg #[dS PI.none_,vi n])/\bM aA w q K w' K p
def tQ (h:PQ aA w q K p){w1 W':acL}(hb:Hid (acN w.heap.size w w1))(hw:aP (λn=>n=w.heap.size+1) w1 W'):bM aA w q K W' K p:=by
 obtain⟨k,hk,hkk⟩:=h.iN;exact bM.pM h hk ((gD.of_below hb.o).far (hw.mono (λn _ e=>aa)) (h.lt _ hkk))
def Cw (h:PQ aA w q K p){w1:acL}(hb:Hid (acN w.heap.size w w1)):ac4 prog 28 #[ptr q] w1 λe w'=>e=ab4 (vi 64)/\w'=w1:=by
 obtain⟨k,hk,hkk⟩:=h.iN;exact kR (h.OW hk (gD.of_below hb.o))
def Qo (h:PQ aA w q K p)(i:PI.bF)(h6:i.direct.length=6)(o:Int)(a:Option Addr)(m c:Nat)(ho:o<0) :
  ac4 prog 12 #[ptr q,dS i,vi o,aco a m c] w (Qn aA w q K p 1):=by
 have c1:decide (o<0)=true:=decide_eq_true ho;clear ho;obtain⟨kd,ln,sz,dl,sg,db⟩:=i;obtain⟨d0,d1,d2,d3,d4,d5,rfl⟩:=six (l:=dl) h6;go_in;go_upto_region 1 with fail;refine ny λw1 HB HX HR=>?_
 have HE:Hid (∀W',aP (λn=>n=w.heap.size+1) w1 W'->bM aA w q K W' K p):=az (λ_=>tQ h HB);obtain⟨r,hr⟩:∃r,r=w.heap.size+1:=⟨_,rfl⟩;rw[<-hr]at HR HE ⊢;obtain⟨z0,fz0,z1,fz1,z2,fz2,z3,fz3,z4,fz4,z5,fz5,z6,fz6,z7,fz7,z8,fz8,z9,fz9,Ui,fz10⟩:=pJ HR.o;clear hr h HB;go_wp2_with fail;obtain⟨hf,hw⟩:=iA (vi 0) (vi 0) (vi 0) (vi 0) (vi 0) (vi 0) (vi 0) (vi 0) (vi 0) (vi 0) (vi 0) HR.o;exact ac5 (bZ hf _ rfl rfl) rfl ⟨rfl,HE.o _ hw⟩
def LY (h:PQ aA w q K p)(i:PI.bF)(h6:i.direct.length=6)(o:Int)(a:Option Addr)(m c:Nat)(ho:¬o<0)(hm:1024<m) :
  ac4 prog 12 #[ptr q,dS i,vi o,aco a m c] w (Qn aA w q K p 1):=by
 have c1:decide (o<0)=false:=decide_eq_false ho;have c2:(1024:Int)<(m:Int):=aa;clear ho hm;obtain⟨kd,ln,sz,dl,sg,db⟩:=i;obtain⟨d0,d1,d2,d3,d4,d5,rfl⟩:=six (l:=dl) h6;go_in;go_upto_region 1 with fail;refine ny λw1 HB HX HR=>?_
 have HE:Hid (∀W',aP (λn=>n=w.heap.size+1) w1 W'->bM aA w q K W' K p):=az (λ_=>tQ h HB);obtain⟨r,hr⟩:∃r,r=w.heap.size+1:=⟨_,rfl⟩;rw[<-hr]at HR HE ⊢;obtain⟨z0,fz0,z1,fz1,z2,fz2,z3,fz3,z4,fz4,z5,fz5,z6,fz6,z7,fz7,z8,fz8,z9,fz9,Ui,fz10⟩:=pJ HR.o;clear hr h HB;go_wp2_with fail;obtain⟨hf,hw⟩:=iA (vi 0) (vi 0) (vi 0) (vi 0) (vi 0) (vi 0) (vi 0) (vi 0) (vi 0) (vi 0) (vi 0) HR.o;exact ac5 (bZ hf _ rfl rfl) rfl ⟨rfl,HE.o _ hw⟩
def xX (h:PQ aA w q K p)(i:PI.bF)(h6:i.direct.length=6)(o:Int)(a:Option Addr)(m c:Nat)(ho:¬o<0)(hm:m<=1024)(hb:67968-(m:Int)<o) :
  ac4 prog 12 #[ptr q,dS i,vi o,aco a m c] w (Qn aA w q K p 69):=by
 have c1:decide (o<0)=false:=decide_eq_false ho;have c2:¬(1024:Int)<(m:Int):=aa;have c3:adk.wrap (67968-(m:Int))=67968-(m:Int):=adl _ aa;clear ho hm;obtain⟨kd,ln,sz,dl,sg,db⟩:=i;obtain⟨d0,d1,d2,d3,d4,d5,rfl⟩:=six (l:=dl) h6;go_in;go_upto_region 1 with fail;refine ny λw1 HB HX HR=>?_
 have HE:Hid (∀W',aP (λn=>n=w.heap.size+1) w1 W'->bM aA w q K W' K p):=az (λ_=>tQ h HB);have HS:=az (Cw h HB);obtain⟨r,hr⟩:∃r,r=w.heap.size+1:=⟨_,rfl⟩;rw[<-hr]at HR HE ⊢;obtain⟨z0,fz0,z1,fz1,z2,fz2,z3,fz3,z4,fz4,z5,fz5,z6,fz6,z7,fz7,z8,fz8,z9,fz9,Ui,fz10⟩:=pJ HR.o;clear hr h HB;go_wp2_with fail;refine HS.o.mono ?_;rintro e w2 ⟨rfl,rfl⟩;go_wp2_with fail;refine kD.mono ?_;rintro e w3 ⟨rfl,rfl⟩;go_wp2_with fail;obtain⟨hf,hw⟩:=iA (vi 0) (vi 0) (vi 0) (vi 0) (vi 0) (vi 0) (vi 0) (vi 0) (vi 0) (vi 0) (vi 0) HR.o;exact ac5 (bZ hf _ rfl rfl) rfl ⟨rfl,HE.o _ hw⟩
def Qp (h:PQ aA w q K p)(i:PI.bF)(h6:i.direct.length=6)(o:Int)(ho:o<0) :
  ac4 prog 23 #[ptr q,dS i,vi o] w (Qn aA w q K p 1):=by
 obtain⟨kd,ln,sz,dl,sg,db⟩:=i;obtain⟨d0,d1,d2,d3,d4,d5,rfl⟩:=six (l:=dl) h6;go_in;go_upto_region 1 with fail;refine ny λw1 HB HX HR=>?_
 have HE:Hid (∀W',aP (λn=>n=w.heap.size+1) w1 W'->bM aA w q K W' K p):=az (λ_=>tQ h HB);obtain⟨r,hr⟩:∃r,r=w.heap.size+1:=⟨_,rfl⟩;rw[<-hr]at HR HE ⊢;obtain⟨z0,fz0,z1,fz1,z2,fz2,z3,fz3,z4,fz4,z5,fz5,z6,fz6,z7,fz7,z8,fz8,z9,fz9,Ui,fz10⟩:=pJ HR.o;clear hr h HB;go_wp2_with fail;obtain⟨hf,hw⟩:=iA (vi 0) (vi 0) (vi 0) (vi 0) (vi 0) (vi 0) (vi 0) (vi 0) (vi 0) (vi 0) (vi 0) HR.o;exact ac5 (gq hf _ rfl rfl) rfl ⟨rfl,HE.o _ hw⟩
def Qq (h:PQ aA w q K p)(i:PI.bF)(h6:i.direct.length=6)(o:Int)(ho:67968<o) :
  ac4 prog 23 #[ptr q,dS i,vi o] w (Qn aA w q K p 69):=by
 have c1:¬o<0:=aa;obtain⟨kd,ln,sz,dl,sg,db⟩:=i;obtain⟨d0,d1,d2,d3,d4,d5,rfl⟩:=six (l:=dl) h6;go_in;go_upto_region 1 with fail;refine ny λw1 HB HX HR=>?_
 have HE:Hid (∀W',aP (λn=>n=w.heap.size+1) w1 W'->bM aA w q K W' K p):=az (λ_=>tQ h HB);have HS:=az (Cw h HB);obtain⟨r,hr⟩:∃r,r=w.heap.size+1:=⟨_,rfl⟩;rw[<-hr]at HR HE ⊢;obtain⟨z0,fz0,z1,fz1,z2,fz2,z3,fz3,z4,fz4,z5,fz5,z6,fz6,z7,fz7,z8,fz8,z9,fz9,Ui,fz10⟩:=pJ HR.o;clear hr h HB;go_wp2_with fail;refine HS.o.mono ?_;rintro e w2 ⟨rfl,rfl⟩;go_wp2_with fail;refine kD.mono ?_;rintro e w3 ⟨rfl,rfl⟩;go_wp2_with fail;obtain⟨hf,hw⟩:=iA (vi 0) (vi 0) (vi 0) (vi 0) (vi 0) (vi 0) (vi 0) (vi 0) (vi 0) (vi 0) (vi 0) HR.o;exact ac5 (gq hf _ rfl rfl) rfl ⟨rfl,HE.o _ hw⟩
def LZ (h:PQ aA w q K p)(i:PI.bF)(h6:i.direct.length=6)(o:Int)(a:Option Addr)(c:Nat)(ho:¬o<0)(hb:¬67968<o) :
  ac4 prog 12 #[ptr q,dS i,vi o,aco a 0 c] w λe w'=>e=ab4 (adg #[dS i,vi 0])/\bM aA w q K w' K p:=by
 have c1:decide (o<0)=false:=decide_eq_false ho;clear ho;obtain⟨kd,ln,sz,dl,sg,db⟩:=i;obtain⟨d0,d1,d2,d3,d4,d5,rfl⟩:=six (l:=dl) h6;go_in;go_upto_region 1 with fail;refine ny λw1 HB HX HR=>?_
 have HE:Hid (∀W',aP (λn=>n=w.heap.size+1) w1 W'->bM aA w q K W' K p):=az (λ_=>tQ h HB);have HS:=az (Cw h HB);obtain⟨r,hr⟩:∃r,r=w.heap.size+1:=⟨_,rfl⟩;rw[<-hr]at HR HE ⊢;obtain⟨z0,fz0,z1,fz1,z2,fz2,z3,fz3,z4,fz4,z5,fz5,z6,fz6,z7,fz7,z8,fz8,z9,fz9,Ui,fz10⟩:=pJ HR.o;clear hr h HB;go_wp2_with fail;refine HS.o.mono ?_;rintro e w2 ⟨rfl,rfl⟩;go_wp2_with fail;refine kD.mono ?_;rintro e w3 ⟨rfl,rfl⟩;obtain⟨x0,x1,x2,x3,x4,x5,x6,x7,x8,x9,JW⟩:=nT HX.o;go_wp2_with fail;obtain⟨hf,hw⟩:=iA (vi kd) (vi ln) (vi sz) (vi d0) (vi d1) (vi d2) (vi d3) (vi d4) (vi d5) (vi sg) (vi db) HR.o
 exact ac5 (bZ hf _ rfl rfl) rfl ⟨rfl,HE.o _ hw⟩
end
end po
namespace lw
open RowKit mgr ft ino po df
def kV (F:DF)(aF:Int)(l:List Nat)(free:Int):Int×DF :=
 if aF<0\/1024<l.length then (1,F) else if 67968-(l.length:Int)<aF then (69,F)
 else if aH F.z<aH (um F.z aF.toNat l.length)/\free<(aH (um F.z aF.toNat l.length):Int)-aH F.z then (67,F) else (0,F.put aF.toNat l)
def outT (F:DF)(t:Int):Int×DF:=if t<0 then (1,F) else if 67968<t then (69,F) else (0,F.cut t.toNat)
section
variable{aA:Nat}{w w':acL}{q:Nat}{K K':Nat->Prop}{p p':Po}{is:Nat->PI.bF}{Fs:Nat->DF}{D:Nat->RF}{t a e:Nat}{Z:Nat->Prop}
def kW (aA:Nat)(w:acL)(q:Nat)(K:Nat->Prop)(p:Po)(is:Nat->PI.bF)(Fs:Nat->DF)(k:Nat)(r:Int×DF)(e:ah8)(w':acL):Prop :=
 ∃i' K' p',e=ab4 (adg #[dS i',vi r.1])/\bG aA w q K w' K' p'/\((r.1≠0/\i'=PI.none_/\p'=p) \/
  (r.1=0/\Fl p' 3 (bW is k i') (fsUp Fs k r.2)/\(i'.aL=(is k).aL/\i'.links=(is k).links/\i'.size=r.2.size)/\(p'.T=p.T/\p'.P=p.P/\p'.I=p.I/\(p'.B,p'.G)=(p.B,p.G))))
def kW.refused {k:Nat}{r:Int×DF}{n:Int}(hr:r.1=n)(hn:n≠0){e':ah8}(h:Qn aA w q K p n e' w'):kW aA w q K p is Fs k r e' w':=by
 obtain⟨rfl,hp⟩:=h;exact⟨PI.none_,K,p,by rw[hr],hp.go,ack ⟨by rw[hr];exact hn,rfl,rfl⟩⟩
def Qr (q:Nat)(i:PI.bF)(h6:i.direct.length=6)(aF n:Int)(hb:aF<0\/n<0\/1024<n):ac4 prog 13 #[ptr q,dS i,vi aF,vi n] w λe w'=>e=ab4 (adg #[aco none 0 0,vi 1])/\acN w.heap.size w w':=by
 obtain⟨kd,ln,sz,dl,sg,db⟩:=i;obtain⟨d0,d1,d2,d3,d4,d5,hdl⟩:=six (l:=dl) h6;subst hdl;clear h6;simp only[dS,j4];have HB:Hid (acN w.heap.size w (w.alloc (ach #[vi kd,vi ln,vi sz,vi d0,vi d1,vi d2,vi d3,vi d4,vi d5,vi sg,vi db] 29))):=az ax;by_cases h1:aF<0
 ·clear hb;go_in;go_wp2;go_ret2;exact⟨rfl,HB.o⟩
 by_cases h2:n<0
 ·clear hb;go_in;go_wp2;go_ret2;exact⟨rfl,HB.o⟩
 have h3:(1024:Int)<n:=aa;clear hb;go_in;go_wp2;go_ret2;exact⟨rfl,HB.o⟩
def L6 (q:Nat)(i:PI.bF)(h6:i.direct.length=6)(aF n:Int)(h0:¬aF<0)(h1:¬n<0)(h2:¬1024<n)(hs:(i.size:Int)<=aF):ac4 prog 13 #[ptr q,dS i,vi aF,vi n] w λe w'=>e=ab4 (adg #[aco none 0 0,vi 0])/\acN w.heap.size w w':=by
 obtain⟨kd,ln,sz,dl,sg,db⟩:=i;obtain⟨d0,d1,d2,d3,d4,d5,hdl⟩:=six (l:=dl) h6;subst hdl;clear h6;dsimp only at hs;simp only[dS,j4];have HB:Hid (acN w.heap.size w (w.alloc (ach #[vi kd,vi ln,vi sz,vi d0,vi d1,vi d2,vi d3,vi d4,vi d5,vi sg,vi db] 29))):=az ax;have HX:=az (aD.new w 29 #[vi kd,vi ln,vi sz,vi d0,vi d1,vi d2,vi d3,vi d4,vi d5,vi sg,vi db]);go_in;go_upto_region 1 with fail;change Code.wp _ _ _ _ (w.alloc (ach #[vi kd,vi ln,vi sz,vi d0,vi d1,vi d2,vi d3,vi d4,vi d5,vi sg,vi db] 29));generalize w.alloc (ach #[vi kd,vi ln,vi sz,vi d0,vi d1,vi d2,vi d3,vi d4,vi d5,vi sg,vi db] 29)=w1 at*
 have x2:w1.cell? ⟨w.heap.size,2,none⟩=some (vi sz):=HX.o.cell 2;go_wp2;go_ret2;exact⟨rfl,HB.o⟩
def VI (hq:PQ aA w q K p)(hf:Fl p 3 is Fs)(k:Nat)(aF n:Int)(h0:¬aF<0)(h1:¬n<0)(h2:¬1024<n):ac4 prog 13 #[ptr q,dS (is k),vi aF,vi n] w λe w' =>
  ∃v K',e=ab4 (adg #[v,vi 0])/\Own w' w.heap.size v (rd (Fs k) aF.toNat (cnt (Fs k) aF.toNat n.toNat))/\bM aA w q K w' K' p:=by
 by_cases hs:((is k).size:Int)<=aF;refine(L6 q (is k) (hf.fam.six k) aF n h0 h1 h2 hs).mono ?_;rintro e' w' ⟨rfl,hb⟩;refine⟨_,K,rfl,?_,bM.aX hq hb⟩;have:cnt (Fs k) aF.toNat n.toNat=0:=by unfold cnt;rw[hf.size];omega
 rw[this];exact acL.ownsRow_nil _ _ _ _;obtain⟨o,rfl⟩:∃o:Nat,aF=o:=⟨aF.toNat,aa⟩;obtain⟨m,rfl⟩:∃m:Nat,n=m:=⟨n.toNat,aa⟩;have hz:(is k).size<=67968:=by rw[<-hf.size];exact(hf.ok k).size
 refine(po.Read_any hq (is k) (hf.fam.wf k) o m aa aa hz).mono ?_;rintro e' w' ⟨v,rfl,ho,hr⟩;refine⟨v,_,rfl,?_,hr⟩;have:p.bytes (is k) o (min m ((is k).size-o))=rd (Fs k) (o:Int).toNat (cnt (Fs k) (o:Int).toNat (m:Int).toNat):=by
  unfold cnt rd Po.bytes;rw[hf.size];refine List.map_congr_left λx _=>?_
  rw[hf.b];rfl
 rwa[<-this]
def ahr (h:dL aA w q K p is Fs D t a e Z)(k:Nat)(aF n:Int)(h0:¬aF<0)(h1:¬n<0)(h2:¬1024<n):ac4 prog 13 #[ptr q,dS (is k),vi aF,vi n] w λe w' =>
  ∃v K',e=ab4 (adg #[v,vi 0])/\Own w' w.heap.size v (rd (Fs k) aF.toNat (cnt (Fs k) aF.toNat n.toNat))/\bM aA w q K w' K' p:=VI h.pq h.fl k aF n h0 h1 h2
def fsUp_same (Fs:Nat->DF)(k:Nat):fsUp Fs k (Fs k)=Fs:=by
 funext j;unfold fsUp;split;rename_i e;rw[e];rfl
def dL.aci (h:dL aA w q K p is Fs D t a e Z):0<=p.aK:=by
 have:=h.pq.ok.W9;unfold Po.aK;omega
def p9 (h:dL aA w q K p is Fs D t a e Z)(k:Nat)(hk:k<3)(aF:Int)(ba:Option Addr)(l:List Nat)(c:Nat)(hr:dx aA w ba l)(hc:l.length<=c):ac4 prog 12 #[ptr q,dS (is k),vi aF,aco ba l.length c] w (kW aA w q K p is Fs k (kV (Fs k) aF l p.aK)):=by
 have h6:=h.fl.fam.six k;by_cases h1:aF<0;exact(Qo h.pq (is k) h6 aF ba l.length c h1).mono λe' w' he=>kW.refused (n:=1) (by unfold kV;rw[if_pos (ack h1)]) ag he;by_cases h2:1024<l.length;exact(LY h.pq (is k) h6 aF ba l.length c h1 h2).mono λe' w' he=>kW.refused (n:=1) (by unfold kV;rw[if_pos (acm h2)]) ag he;have e1:¬(aF<0\/1024<l.length):=λe=>e.elim h1 h2
 by_cases h3:67968-(l.length:Int)<aF;exact(xX h.pq (is k) h6 aF ba l.length c h1 aa h3).mono λe' w' he=>kW.refused (n:=69) (by unfold kV;rw[if_neg e1,if_pos h3]) ag he;obtain⟨o,rfl⟩:∃o:Nat,aF=o:=⟨aF.toNat,aa⟩;have ho:(o:Int).toNat=o:=rfl;by_cases h4:l=[];subst h4;have hout:kV (Fs k) (o:Int) [] p.aK=(0,Fs k):=by
  unfold kV;rw[if_neg e1,if_neg h3,ho];have hz:um (Fs k).z o ([]:List Nat).length=(Fs k).z:=Cc _ _;rw[hz,if_neg aa];unfold DF.put;rw[if_pos rfl]
 rw[hout];refine(LZ h.pq (is k) h6 (o:Int) ba c h1 (by simp at h3;omega)).mono ?_;rintro e' w' ⟨rfl,hp⟩;exact⟨is k,K,p,rfl,hp.go,acm ⟨rfl,by rw[oK,fsUp_same];exact h.fl,⟨rfl,rfl,(h.fl.size k).symm⟩,rfl,rfl,rfl,rfl⟩⟩;have hl1:1<=l.length:=by
  have:=List.length_pos_iff.2 h4;omega
 obtain⟨b0,o0,rfl⟩:∃b0 o0,ba=some ⟨b0,o0,none⟩:=by
  rcases hr.row.at_ with e0|⟨b0,o0,e0,_⟩;exact absurd e0 h4;exact⟨b0,o0,e0⟩
 have hz:=abt (Fs k).z o hl1;have hzz:(Fs k).z=p.gG (is k):=h.fl.gG k;refine(po.oM h.pq is h.fl.fam k o l b0 o0 c hr hc ⟨hl1,aa⟩ aa).mono ?_;intro e' w' hw;unfold mU at hw;rw[<-hzz,<-hz]at hw;have hn:=h.aci;split at hw;rename_i hlt;have hout:kV (Fs k) (o:Int) l p.aK=(67,Fs k):=by
  unfold kV;rw[if_neg e1,if_neg h3,ho,if_pos ⟨aa,hlt⟩]
 obtain⟨rfl,K',hp⟩:=hw;rw[hout];exact⟨PI.none_,K',p,rfl,hp.go,ack ⟨(by show (67:Int)≠0;decide),rfl,rfl⟩⟩;rename_i hge;have hput:(Fs k).put o l=(Fs k).wr o l:=by unfold DF.put;rw[if_neg h4]
 have hout:kV (Fs k) (o:Int) l p.aK=(0,(Fs k).wr o l):=by
  unfold kV;rw[if_neg e1,if_neg h3,ho,if_neg (λe=>hge e.2),hput]
 obtain⟨K',p',i',rfl,hp,hW⟩:=hw;rw[hout];have hfl:=h.fl.wr hk hW hl1 aa hr.row.small;obtain⟨i1,i2,i3⟩:=hW.ino;exact⟨_,K',p',rfl,hp,acm ⟨rfl,hfl,⟨i1,i2,by show max (is k).size _=max (Fs k).size _;rw[h.fl.size]⟩,hW.vC⟩⟩
def yn (hq:PQ aA w q K p)(hf:Fl p 3 is Fs)(k:Nat)(hk:k<3)(iE:Int):ac4 prog 23 #[ptr q,dS (is k),vi iE] w (kW aA w q K p is Fs k (outT (Fs k) iE)):=by
 have h6:=hf.fam.six k;by_cases h1:iE<0;exact(Qp hq (is k) h6 iE h1).mono λe' w' he=>kW.refused (n:=1) (by unfold outT;rw[if_pos h1]) ag he;by_cases h2:67968<iE;exact(Qq hq (is k) h6 iE h2).mono λe' w' he=>kW.refused (n:=69) (by unfold outT;rw[if_neg h1,if_pos h2]) ag he;obtain⟨o,rfl⟩:∃o:Nat,iE=o:=⟨iE.toNat,aa⟩;have hout:outT (Fs k) (o:Int)=(0,(Fs k).cut o):=by unfold outT;rw[if_neg h1,if_neg h2];rfl
 rw[hout];refine(po.xW hq is hf.fam k o aa (by rw[<-hf.size];exact(hf.ok k).size)).mono ?_;rintro e' w' ⟨K',p1,p',i',gone,rfl,hp,hC,hg,hpe⟩;obtain⟨hfl,hd⟩:=hf.cut hk aa hC hg hpe;obtain⟨i1,i2,i3⟩:=hC.ino;exact⟨_,K',p',rfl,hp,acm ⟨rfl,hfl,⟨i1,i2,rfl⟩,hd⟩⟩
def Cz (h:dL aA w q K p is Fs D t a e Z)(k:Nat)(hk:k<3)(iE:Int):ac4 prog 23 #[ptr q,dS (is k),vi iE] w (kW aA w q K p is Fs k (outT (Fs k) iE)):=yn h.pq h.fl k hk iE
end
variable{w w':acL}{K:Nat->Prop}{F:DF}{R:RF}
abbrev jo (w:acL)(K:Nat->Prop)(F:DF)(R:RF):Prop:=pU w K F R.ap R.N R.cp R.ab R.cb/\R.s=F.size
def DN (w:acL)(K:Nat->Prop)(r:Int×DF)(e:ah8)(w':acL):Prop:=∃R':RF,e=ab4 (adg #[R'.v,vi r.1])/\jo w' K r.2 R'/\acN w.heap.size w w'
def jo.v (h:jo w K F R):R.v=qm F.size R.ap R.N R.cp R.ab R.cb:=by
 show acK.agg #[vi 64,vi R.s,_,_]=acK.agg #[vi 64,vi F.size,_,_];rw[h.2]
def jo.of {v:acK}(h:Je w K v F):∃R:RF,v=R.v/\jo w K F R:=by
 obtain⟨ap,N,cp,ab,cb,rfl,h⟩:=h;exact⟨⟨F.size,ap,N,cp,ab,cb⟩,rfl,h,rfl⟩
def DN.same (h:jo w K F R){n:Int}{e':ah8}(he:e'=ab4 (adg #[qm F.size R.ap R.N R.cp R.ab R.cb,vi n])/\acN w.heap.size w w'):DN w K (n,F) e' w':=by
 obtain⟨rfl,hb⟩:=he;exact⟨R,by rw[h.v],⟨h.1.old hb,h.2⟩,hb⟩
def L8 (h:jo w K F R)(hK:∀n,K n->n<w.heap.size)(aF:Int)(ba:Option Addr)(l:List Nat)(c:Nat)(free:Int)(hr:bE w ba l):ac4 prog 39 #[R.v,vi aF,aco ba l.length c,vi free] w (DN w K (kV F aF l free)):=by
 rw[h.v];by_cases h1:aF<0\/1024<l.length;have hout:kV F aF l free=(1,F):=by unfold kV;rw[if_pos h1]
 rw[hout];exact(ahq aF ba l.length c free h1).mono λe' w' he=>DN.same h he
 by_cases h3:67968-(l.length:Int)<aF;have hout:kV F aF l free=(69,F):=by unfold kV;rw[if_neg h1,if_pos h3]
 rw[hout];exact(xX aF ba l.length c free (λe=>h1 (ack e)) aa h3).mono λe' w' he=>DN.same h he
 obtain⟨o,rfl⟩:∃o:Nat,aF=o:=⟨aF.toNat,aa⟩;have hout:kV F (o:Int) l free=if aH F.z<aH (um F.z o l.length)/\free<(aH (um F.z o l.length):Int)-aH F.z then (67,F) else (0,F.put o l):=by unfold kV;rw[if_neg h1,if_neg h3];rfl
 rw[hout];refine(df.oM h.1 hK o ba l c free hr aa aa).mono ?_;intro e' w' hw;unfold WrR at hw;split at hw;rename_i hc;rw[if_pos hc];exact DN.same h hw;rename_i hc;rw[if_neg hc];obtain⟨u,rfl,hd,hb⟩:=hw;obtain⟨R',rfl,hR⟩:=jo.of hd;exact⟨R',rfl,hR,hb⟩
def L9 (h:jo w K F R)(hK:∀n,K n->n<w.heap.size)(iE:Int):ac4 prog 42 #[R.v,vi iE] w (DN w K (outT F iE)):=by
 rw[h.v];by_cases h1:iE<0\/67968<iE;have hout:outT F iE=(if iE<0 then 1 else 69,F):=by
  unfold outT;by_cases h2:iE<0;rw[if_pos h2,if_pos h2];rw[if_neg h2,if_neg h2,if_pos aa]
 rw[hout];exact(PO iE h1).mono λe' w' he=>DN.same h he
 obtain⟨o,rfl⟩:∃o:Nat,iE=o:=⟨iE.toNat,aa⟩;have hout:outT F (o:Int)=(0,F.cut o):=by unfold outT;rw[if_neg aa,if_neg aa];rfl
 rw[hout];refine(df.xW h.1 hK o aa).mono ?_;rintro e' w' ⟨u,rfl,hd,hb⟩;obtain⟨R',rfl,hR⟩:=jo.of hd;exact⟨R',rfl,hR,hb⟩
def Qs (h:jo w K F R)(aF n:Int)(ho: -9223372036854775808<=aF/\aF<=9223372036854775807)(hb:aF<0\/n<0\/1024<n):ac4 prog 43 #[R.v,vi aF,vi n] w λe w'=>e=ab4 (adg #[aco none 0 0,vi 1])/\acN w.heap.size w w':=by
 rw[h.v];exact df.Ux aF n ho hb
def Qt (h:jo w K F R)(aF n:Int)(ho:aF<=9223372036854775807)(h0:¬aF<0)(h1:¬n<0)(h2:¬1024<n):ac4 prog 43 #[R.v,vi aF,vi n] w λe w' =>
  ∃v,e=ab4 (adg #[v,vi 0])/\aR w' w.heap.size 5 v ((rd F aF.toNat (cnt F aF.toNat n.toNat)).map vb)/\acN w.heap.size w w':=by
 rw[h.v];obtain⟨o,rfl⟩:∃o:Nat,aF=o:=⟨aF.toNat,aa⟩;obtain⟨m,rfl⟩:∃m:Nat,n=m:=⟨n.toNat,aa⟩;exact df.Read_any h.1 o m aa aa
def Qu (q:Nat)(is:Nat->PI.bF)(D:Nat->RF)(k:Nat)(hk:k<3)(i:PI.bF)(h6:i.direct.length=6)(R:RF)(hi:i.aL=1/\i.links=k/\i.size=R.s) :
  ac4 prog 41 #[.agg (aI (aO q is D)),vi k,dS i,R.v,vi 0,vi 0] w λe w'=>e=ab4 (adg #[.agg (aI (aO q (bW is k i) (Q6 D k R))),acg true])/\acN w.heap.size w w':=by
 obtain⟨kd,ln,sz,dl,sg,db⟩:=i;obtain⟨d0,d1,d2,d3,d4,d5,rfl⟩:=six (l:=dl) h6;obtain⟨s,ap,N,cp,ab,cb⟩:=R;obtain⟨h1,h2,h3⟩:=hi;dsimp only at h1 h2 h3;subst h1 h2 h3;exact Lt q is D ln hk sz d0 d1 d2 d3 d4 d5 sg db ap N cp ab cb
def acj (w:acL)(a b c:Array acK)(ta tb tc:TypeId):∃W,W=((w.alloc (ach a ta)).alloc (ach b tb)).alloc (ach c tc)/\acN w.heap.size w W/\aD W w.heap.size ta a/\aD W (w.heap.size+1) tb b/\aD W (w.heap.size+1+1) tc c:=by
 refine⟨_,rfl,((ax.alloc ai _).alloc (by simp;omega) _),((aD.new w ta a).alloc _).alloc _,?_,?_⟩;have h:=(aD.new (w.alloc (ach a ta)) tb b).alloc (ach c tc);rwa[size_alloc]at h;have h:=aD.new ((w.alloc (ach a ta)).alloc (ach b tb)) tc c;rwa[size_alloc,size_alloc]at h
def kX {g:Nat}{C:Nat->acK}{b:Bool}(hb:aD w' g 37 (aI C))(tmps:Array acK)(h2:tmps[4]?=some (.pointer (some ⟨g,0,none⟩)))(h3:tmps[5]?=some (acg b)) :
  (results Tryz.f17 tmps).run prog w'=.ok (adg #[.agg (aI C),acg b]) w':=by
 have hl:=oU hb;simp only[results,results17];simp[h2,h3,hl,asAddr,Sem.run_bind]
section
variable{aA:Nat}{w'':acL}{q:Nat}{K' K'':Nat->Prop}{p p':Po}{is is':Nat->PI.bF}{Fs Qv:Nat->DF}{D D':Nat->RF}{t a e:Nat}{Z:Nat->Prop}
structure gF (w:acL)(q:Nat)(K:Nat->Prop)(w':acL)(K':Nat->Prop):Prop where
 aJ:aP (KQ K q) w w'
 foot:∀n,K' n->K n\/w.heap.size<=n
def gF.refl:gF w q K w K:=⟨aP.refl _ _,λ_ e=>ack e⟩
def gF.trans (h:gF w q K w' K')(g:gF w' q K' w'' K''):gF w q K w'' K'':=by
 refine⟨h.aJ.trans g.aJ (λn hn e=>?_),λn e=>?_⟩;rcases e with e|e;rcases h.foot n e with e|e;exact ack e;omega;exact acm e;rcases g.foot n e with e|e;exact h.foot n e;exact acm (abX h.aJ.size e)
def gF.old (h:gF w q K w' K')(hb:acN w'.heap.size w' w''):gF w q K w'' K':=⟨h.aJ.below hb,h.foot⟩
def gF.aX (hb:acN w.heap.size w w'):gF w q K w' K:=gF.refl.old hb
def gF.fA (h:bG aA w q K w' K' p'):gF w q K w' K':=⟨h.aJ.mono (λ_ _ e=>ack e),h.foot⟩
def gF.ZX (h:VG aA w q K w' K' p'):gF w q K w' K':=⟨h.aJ,h.foot⟩
def gF.kq (h:gF w q K w' K')(hq:q<w.heap.size):∀n,KQ K' q n->KQ K q n\/w.heap.size<=n:=λn e=>by
 rcases e with e|e
 rcases h.foot n e with e|e
 exact ack (ack e)
 exact acm e
 exact ack (acm e)
def gF.blk (h:gF w q K w' K'){g:Nat}{ty:TypeId}{cs:Array acK}(hb:aD w g ty cs)(hn:¬KQ K q g):aD w' g ty cs/\¬KQ K' q g:=by
 refine⟨hb.aJ h.aJ hn,λe=>?_⟩;rcases e with e|e;rcases h.foot g e with e|e;exact hn (ack e);have:=hb.lt;omega;exact hn (acm e)
def rZ (aA:Nat)(w:acL)(q:Nat)(K:Nat->Prop)(p:Po)(is:Nat->PI.bF)(Fs:Nat->DF)(D:Nat->RF)(t a e:Nat)(Z:Nat->Prop)(k:Nat)(en:ah8)(w':acL):Prop :=
 ∃K' p' is' Qv D' a' e',en=ab4 (adg #[.agg (aI (aO q is' D')),acg true])/\dL aA w' q K' p' is' Qv D' t a' e' Z/\gF w q K w' K'/\(a'<=a+9000/\e'<=e+1)/\(∀j,j≠k->Qv j=Fs j/\is' j=is j)/\p'.P=p.P
def gF.kz (h:gF w q K w' K')(hq:q<w.heap.size):∀n,KZ K' q Z n->KZ K q Z n\/w.heap.size<=n:=λn e =>
 e.elim (λe=>(h.kq hq n e).elim (λe=>ack (ack e)) acm) (λe=>ack (acm e))
def dL.dfs (h:dL aA w q K p is Fs D t a e Z)(g:gF w q K w' K')(j:Nat)(hj:j<3):jo w' (KZ K' q Z) (Fs j) (D j):=⟨(h.df j hj).1.aJ (g.aJ.mono (λ_ _ e=>ack e)) (g.kz h.pq.JV),(h.df j hj).2⟩
def dL.zgo (h:dL aA w q K p is Fs D t a e Z)(hs:w.heap.size<=w'.heap.size):∀n,Z n->n<w'.heap.size:=λn e=>adN (h.zlt n e) hs
def dL.go (h:dL aA w q K p is Fs D t a e Z)(g:bG aA w q K w' K' p):dL aA w' q K' p is Fs D t a e Z:=⟨g.at_,h.fl,h.gg,λj hj=>h.dfs (gF.fA g) j hj,h.ino,h.zgo g.size⟩
end
abbrev KR (K:Nat->Prop)(q:Nat)(Z:Nat->Prop)(r:Nat):Nat->Prop:=λn=>KZ K q Z n\/n=r
section
variable{aA:Nat}{W wc:acL}{q:Nat}{K':Nat->Prop}{p p':Po}{is:Nat->PI.bF}{Fs:Nat->DF}{D:Nat->RF}{t a e:Nat}{Z:Nat->Prop}
def dL.dfr (h:dL aA w q K p is Fs D t a e Z)(hB:acN w.heap.size w W)(g:gF W q K wc K'){r:Nat}(hr:w.heap.size<=r)(j:Nat)(hj:j<3):jo wc (KR K' q Z r) (Fs j) (D j):=by
 refine⟨?_,(h.df j hj).2⟩;have h1:pU W (KR K q Z r) (Fs j) (D j).ap (D j).N (D j).cp (D j).ab (D j).cb:=(h.df j hj).1.aJ (aP.of_below hB) (λn e=>e.elim ack (λe=>acm aa));refine h1.aJ (g.aJ.mono (λ_ _ e=>ack (ack e))) (λn e=>?_);rcases e with e|e;exact(g.kz (adN h.pq.JV hB.size) n e).elim (λe=>ack (ack e)) acm;exact ack (acm e)
def NN (w:acL)(q:Nat)(p p':Po)(is:Nat->PI.bF)(Fs:Nat->DF)(D:Nat->RF)(k:Nat)(out:Int×DF)(i':PI.bF)(R:RF)(en:ah8)(w':acL):Prop :=
 ∃is' D' Qv,en=ab4 (adg #[.agg (aI (aO q is' D')),acg true])/\acN w.heap.size w w'/\((out.1≠0/\p'=p/\is'=is/\D'=D/\Qv=Fs) \/
  (out.1=0/\is'=bW is k i'/\D'=Q6 D k R/\Qv=fsUp Fs k out.2/\Fl p' 3 (bW is k i') (fsUp Fs k out.2)/\(i'.aL=(is k).aL/\i'.links=(is k).links/\i'.size=out.2.size)/\(p'.T=p.T/\p'.P=p.P/\p'.I=p.I/\(p'.B,p'.G)=(p.B,p.G))))
def pW {k:Nat}(hk:k<3)(VJ:(is k).aL=1/\(is k).links=k){out:Int×DF}{i':PI.bF}(h6:i'.direct.length=6)(hs:R.s=out.2.size)(hcs:(out.1≠0/\i'=PI.none_/\p'=p) \/
  (out.1=0/\Fl p' 3 (bW is k i') (fsUp Fs k out.2)/\(i'.aL=(is k).aL/\i'.links=(is k).links/\i'.size=out.2.size)/\(p'.T=p.T/\p'.P=p.P/\p'.I=p.I/\(p'.B,p'.G)=(p.B,p.G)))) :
  ac4 prog 41 #[.agg (aI (aO q is D)),vi k,dS i',R.v,vi out.1,vi out.1] w (NN w q p p' is Fs D k out i' R):=by
 rcases hcs with⟨h1,rfl,h3⟩|⟨h1,h2,h3,h4⟩;refine(Ls (w:=w) (aO q is D) (fu q is D) k R out.1 h1).mono ?_;rintro e' w' ⟨rfl,hb⟩;exact⟨is,D,Fs,rfl,hb,ack ⟨h1,h3,rfl,rfl,rfl⟩⟩;rw[h1];refine(Qu q is D k hk i' h6 R ⟨h3.1.trans VJ.1,h3.2.1.trans VJ.2,h3.2.2.trans hs.symm⟩).mono ?_;rintro e' w' ⟨rfl,hb⟩;exact⟨_,_,_,rfl,hb,acm ⟨h1,rfl,rfl,rfl,h2,h3,h4⟩⟩
def step_end (h:dL aA w q K p is Fs D t a e Z)(hB:acN w.heap.size w W)(g:gF W q K wc K')(hq:PQ aA wc q K' p'){k:Nat}(hk:k<3){out:Int×DF}{i':PI.bF}{wx:acL}
  {r:Nat} (hr:w.heap.size<=r) (hrW:r<W.heap.size) (hrn:¬KQ K' q r) (hR:jo wx (KR K' q Z r) out.2 R) (hbx:acN wc.heap.size wc wx) {en:ah8} (ht:NN wx q p p' is Fs D k out i' R en w') {cs:Array acK} (hrb:aD w' r 37 cs) (hcs:cs.size=46) :
  ∃is' D',en=ab4 (adg #[.agg (aI (aO q is' D')),acg true])/\aD (cZ w' r (aO q is' D')) r 37 (aI (aO q is' D'))/\rZ aA w q K p is Fs D t a e Z k (ab4 (adg #[.agg (aI (aO q is' D')),acg true])) (cZ w' r (aO q is' D')):=by
 obtain⟨is',D',Qv,rfl,hb',hc⟩:=ht;refine⟨is',D',rfl,gy hrb hcs _,?_⟩;have hst:=dh w' r (aO q is' D');have hbw:acN wc.heap.size wc w':=hbx.trans (hb'.mono hbx.size);have hlow:=h.pq.low;have hgo:gF w q K (cZ w' r (aO q is' D')) K':=by
  have h1:=((gF.aX (q:=q) (K:=K) hB).trans g).old hbw;refine⟨h1.aJ.trans hst (λn hn e=>?_),h1.foot⟩;omega
 have hpq:PQ aA (cZ w' r (aO q is' D')) q K' p':=by
  have h1:=hq.old hbw;exact h1.aJ hst (λn e=>by rw[e];exact Loose.blk (abX hlow hr) hrb) (λn hk e=>hrn (ack (by rw[<-e];exact hk))) (λe=>hrn (acm e.symm))
 have hold:∀j,j<3->jo (cZ w' r (aO q is' D')) (KZ K' q Z) (Fs j) (D j):=λj hj=>by
  have h1:=h.dfr hB g hr j hj;exact⟨((h1.1.old hbw).jg (acm rfl) hst).sub (λn e=>ack e),h1.2⟩
 rcases hc with⟨h1,rfl,rfl,rfl,rfl⟩|⟨h1,rfl,rfl,rfl,hfl,hi,hd⟩;exact⟨K',_,_,_,_,a,e,rfl,⟨hpq,h.fl,h.gg,hold,h.ino,h.zgo hgo.aJ.size⟩,hgo,⟨aa,aa⟩,λj _=>⟨rfl,rfl⟩,rfl⟩;have hRn:jo (cZ w' r (aO q (bW is k i') (Q6 D k R))) (KZ K' q Z) out.2 R:=⟨((hR.1.old hb').jg (acm rfl) hst).sub (λn e=>ack e),hR.2⟩;refine⟨K',_,_,_,_,a,e,rfl,⟨hpq,hfl,⟨(congrArg Prod.snd hd.2.2.2).trans h.gg.1,by rw[hd.1,hd.2.1];exact h.gg.2⟩,λj hj=>?_,λj hj=>?_,h.zgo hgo.aJ.size⟩,hgo,⟨aa,aa⟩,λj hj=>⟨fsUp_other _ _ hj,aV _ _ hj⟩,hd.2.1⟩;by_cases e:j=k;rw[e,fsUp_self]
 unfold Q6;rw[if_pos rfl];exact hRn;rw[fsUp_other _ _ e];unfold Q6;rw[if_neg e];exact hold j hj;by_cases e:j=k;rw[e,aS,hi.1,hi.2.1];exact h.ino k hk;rw[aV _ _ e];exact h.ino j hj
end
structure Bx (x y r:Nat)(C:Nat->acK)(O:Array acK)(W:acL):Prop where
 x:aD W x 37 (aI C)
 y:aD W y 48 O
 r:aD W r 37 (aI jQ)
variable{x y r:Nat}{C:Nat->acK}{O:Array acK}{W W':acL}
def Bx.old (h:Bx x y r C O W)(hb:acN W.heap.size W W'):Bx x y r C O W':=⟨h.x.old hb,h.y.old hb,h.r.old hb⟩
def Bx.drew (h:Bx x y r C O W):Bx x y r C O W.drew:=⟨h.x,h.y,h.r⟩
def Bx.alloc (h:Bx x y r C O W)(o:Obj):Bx x y r C O (W.alloc o):=⟨h.x.alloc o,h.y.alloc o,h.r.alloc o⟩
def Bx.lt (h:Bx x y r C O W):x<W.heap.size/\y<W.heap.size/\r<W.heap.size:=⟨h.x.lt,h.y.lt,h.r.lt⟩
variable{q:Nat}
def Bx.go {K':Nat->Prop}(h:Bx x y r C O W)(g:gF W q K W' K')(hn:¬KQ K q x/\¬KQ K q y/\¬KQ K q r):Bx x y r C O W'/\(¬KQ K' q x/\¬KQ K' q y/\¬KQ K' q r) :=
 ⟨⟨(g.blk h.x hn.1).1,(g.blk h.y hn.2.1).1,(g.blk h.r hn.2.2).1⟩,(g.blk h.x hn.1).2,(g.blk h.y hn.2.1).2,(g.blk h.r hn.2.2).2⟩
variable{is:Nat->PI.bF}{D:Nat->RF}
def GD (h:aD W x 37 (aI (aO q is D)))(k:Nat)(hk:k<3)(j:Nat)(hj:j<11):W.cell? ⟨x,1+k*11+j,none⟩=some (Jk (is k) j):=by
 have h1:=(gu h).1 (1+k*11+j) aa;rw[h1];congr 1;unfold aO;rcases (by omega:k=0\/k=1\/k=2) with rfl|rfl|rfl;rw[if_neg aa,if_pos aa];congr 1;omega;rw[if_neg aa,if_neg aa,if_pos aa];congr 1;omega;rw[if_neg aa,if_neg aa,if_neg aa,if_pos aa];congr 1;omega
def oW (is:Nat->PI.bF)(k:Nat)(h6:(is k).direct.length=6):∃kd ln sz d0 d1 d2 d3 d4 d5 sg db,is k=⟨kd,ln,sz,[d0,d1,d2,d3,d4,d5],sg,db⟩:=by
 generalize is k=i at*;obtain⟨kd,ln,sz,dl,sg,db⟩:=i;obtain⟨d0,d1,d2,d3,d4,d5,rfl⟩:=six (l:=dl) h6;exact⟨kd,ln,sz,d0,d1,d2,d3,d4,d5,sg,db,rfl⟩
def wP {k kd ln sz d0 d1 d2 d3 d4 d5 sg db:Nat}(hk:k<3)(hik:is k=⟨kd,ln,sz,[d0,d1,d2,d3,d4,d5],sg,db⟩)(W':acL)(hb:aD W' x 37 (aI (aO q is D))) :
  (W'.cell? ⟨x,0,none⟩=some (ptr q)/\W'.cell? ⟨x,1+k*11,none⟩=some (vi kd)/\W'.cell? ⟨x,1+k*11+1,none⟩=some (vi ln)/\W'.cell? ⟨x,1+k*11+2,none⟩=some (vi sz)/\W'.cell? ⟨x,1+k*11+3,none⟩=some (vi d0)/\W'.cell? ⟨x,1+k*11+4,none⟩=some (vi d1)/\W'.cell? ⟨x,1+k*11+5,none⟩=some (vi d2)/\W'.cell? ⟨x,1+k*11+6,none⟩=some (vi d3)/\W'.cell? ⟨x,1+k*11+7,none⟩=some (vi d4)/\W'.cell? ⟨x,1+k*11+8,none⟩=some (vi d5)/\W'.cell? ⟨x,1+k*11+9,none⟩=some (vi sg)/\W'.cell? ⟨x,1+k*11+10,none⟩=some (vi db)):=by
 have hc:=λj hj=>GD hb k hk j hj
 rw[hik]at hc;exact⟨(gu hb).1 0 aa,hc 0 aa,hc 1 aa,hc 2 aa,hc 3 aa,hc 4 aa,hc 5 aa,hc 6 aa,hc 7 aa,hc 8 aa,hc 9 aa,hc 10 aa⟩
def wQ {k s1 N1 xY zC:Nat}{yX zB:Option Addr}(hk:k<3)(hD:D k=⟨s1,yX,N1,xY,zB,zC⟩)(W':acL)(hb:aD W' x 37 (aI (aO q is D))) :
  (W'.cell? ⟨x,34+k*4,none⟩=some (vi 64)/\W'.cell? ⟨x,34+k*4+1,none⟩=some (vi s1)/\W'.cell? ⟨x,34+k*4+2,none⟩=some (aco yX N1 xY)/\W'.cell? ⟨x,34+k*4+3,none⟩=some (aco zB N1 zC)):=by
 have h:=JF hb k hk;rw[hD]at h;exact h
end lw
end Go.Proofs.YtllmbcigmimgoaaGreat
