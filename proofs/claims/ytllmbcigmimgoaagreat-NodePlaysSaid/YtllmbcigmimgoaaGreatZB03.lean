/-
  Lemmas for a law's proof, put together from several texts. No conditions of their own.
-/
import Derived.Test.YtllmbcigmimgoaaGreatZB02
import Derived.Deep.RegionHeld3
import Derived.BigRegion
import Derived.Deep.QuietTactic
import Derived.Deep.RegionLaw
import Derived.Deep.CutBlock
set_option maxRecDepth 100000
set_option maxHeartbeats 20000000
set_option linter.all false
namespace Go.Proofs.YtllmbcigmimgoaaGreat
open _root_.Go.Proofs.Tryz
open _root_.Bool renaming and_eq_true->ac8
open _root_.Go renaming World->acL,Calls->ac4,Addr->acM,Value->acK
open _root_.Go.Ending renaming returned->ab4
open _root_.Go.Obj renaming cells->ach
open _root_.Go.RowKit renaming Below->acN
open _root_.Go.Value renaming tuple->adg,slice->aco,bool->acg,pointer->adj
open _root_.Go.World renaming cell?_setCell_other->ac6
open _root_.Int renaming toNat_natCast->acW
open _root_.List renaming replicate->aaA,getD_eq_getElem?_getD->aah,length_set->abZ,set_set->ac2,getElem?_eq_getElem->aaj,getElem?_eq_none->ac7,range->ac9,mem_map_of_mem->ada,drop_eq_getElem_cons->adb,mem_map->aay,map_set->ade,mem_singleton->adf,length_replicate->abP
open _root_.Nat renaming zero_le->aaW,le_trans->abX
open _root_.Or renaming inr->acm,inl->ack
open RowKit
variable{aA:Nat}{w:acL}{k:Nat}{M:dA}
def pE (hok:M.view.ok):M.bs.length=M.B:=by
 have:=hok.blocks;simpa[dA.view] using this
def EY (hok:M.view.ok):M.S<=512/\M.P<=32/\M.B<=128:=by
 have:NP.bH M.B M.P M.S=true:=hok.right;simp only[NP.bH,ac8,decide_eq_true_eq,Bool.or_eq_true,beq_iff_eq]at this;omega
variable{i:Nat}
def MF (hok:M.view.ok)(hi:i<M.bs.length):(M.bs.getD i default).ps.length=M.P:=by
 have:=hok.pages (M.bs.getD i default).view (ada (bL hi));have h2:((M.bs.getD i default).ps.map (·.l)).length=M.P:=this;rwa[List.length_map]at h2
def MG (hok:M.view.ok)(hi:i<M.bs.length){p:sD}(hp:p∈(M.bs.getD i default).ps):p.l=[]\/p.l.length=M.S+32:=hok.full (M.bs.getD i default).view (ada (bL hi)) p.l (ada hp)
def DZ {p:Nat}(hi:i<M.bs.length)(hp:p<(M.bs.getD i default).ps.length):(M.view.blk i).aB p=((M.bs.getD i default).ps.getD p default).l:=by
 rw[kM hi];exact getD_map hp
def RP (aA:Nat)(w:acL)(k:Nat)(M:dA)(r:(List Nat×Int)×NP.bX)(e:Ending)(w':acL):Prop :=
 ∃v' M',e=ab4 (adg #[v',vi r.1.2])/\Own w' w.heap.size v' r.1.1/\Goes aA w k M w' M'/\M'.view=r.2
def yA (M:dA):dA:={M with reads:=NP.qH (M.reads+1)}
def Read_any (h:aT aA w k M)(hok:M.view.ok)(j p:Int):ac4 prog 101 #[ptr k,vi j,vi p] w (RP aA w k M (NP.bQ M.view j p)):=by
 have hen:=λ(w:acL) (a:Option acM) (n c:Nat)=>Lib.run_eql_slice_nil (P:=prog) w 23 5 a n c 0 0 underlying23;have hB:=pE hok;have HC:=az h;have vJ:=az hB;by_cases he:NP.asked M.view j p=0
 ·obtain⟨hd,hj0,hj1,hp0,hp1⟩:=NP.fB he;change j<M.B at hj1;change p<M.P at hp1;obtain⟨i,rfl⟩:∃i:Nat,j=i:=⟨j.toNat,aa⟩;obtain⟨q,rfl⟩:∃q:Nat,p=q:=⟨p.toNat,aa⟩;have hi:i<M.bs.length:=aa;have hps:=MF hok hi;have hq:q<(M.bs.getD i default).ps.length:=aa;have HQ:Hid (NP.bQ M.view i q=((if ((M.bs.getD i default).ps.getD q default).l=[] then aaA (M.S+32) 255 else ((M.bs.getD i default).ps.getD q default).l,0),(yA M).view)):=az (by
   unfold NP.bQ
   dsimp only
   rw[if_pos he,acW,acW,DZ hi hq]
   rfl)
  have HE:=az he;have hS:=(EY hok).1;have hfl:=MG hok hi (bL (d:=default) hq);have G:=h.field (M':=yA M) 8 (vi (wrap64 (M.reads+1))) (by rw[<-qY];rfl) rfl rfl rfl h.faults;have HG:=az G;obtain⟨c0,c1,c2,c3,c4,c5,c6,c7,c8⟩:=h.cells;have z8:=h.aW.frozen 8;clear c0 c1 c2 c4 c5 c6 c7 c3 hd he G hok h hB;go_in;go_wp2_with fail;refine(cu HC.o vJ.o _ _).mono ?_;rintro e w' ⟨rfl,rfl⟩;rw[HE.o];go_upto_region 5 with fail;generalize w'.setCell ⟨k,8,none⟩ (vi (wrap64 (M.reads+1)))=w1 at*;have c3:w1.cell? ⟨k,3,none⟩=some (.slice (some ⟨M.kb,0,none⟩) M.bs.length M.kc):=HG.o.at_.aW.cell 3
  have d0:w1.cell? ⟨M.kb,i*5,none⟩=some (.slice (some ⟨(M.bs.getD i default).g,0,none⟩) (M.bs.getD i default).ps.length (M.bs.getD i default).c):=HG.o.at_.iG (i:=i) (j:=0) hi ag;have d1:=HG.o.at_.Hq (i:=i) (p:=q) hi hq;have EZ:=HG.o.at_.rows _ (bL (d:=default) hi) _ (bL (d:=default) hq);change w1.cell? ⟨(M.bs.getD i default).g,q,none⟩=some ((M.bs.getD i default).ps.getD q default).v at d1;change (((M.bs.getD i default).ps.getD q default)).ok aA w1 at EZ;clear c8 z8;generalize M.bs.getD i default=x at*;obtain⟨xg,xc,xps,xn,xb,xd,xw⟩:=x;dsimp only at*;generalize xps.getD q default=pg at*
  obtain⟨pa,pl,pc⟩:=pg;dsimp only at*;by_cases hl:pl=[]
  ·have hnil:=EZ.nil hl;injection hnil with h1 h2 h3;subst h1 h2 h3;rw[if_pos rfl]at HQ;clear EZ hfl;go_wp2_with fail;refine(full_any HG.o.at_ hS).mono ?_;rintro e w2 ⟨rfl,rfl⟩;go_wp2_with fail;refine(Av (M.S+32) _ aa).mono ?_;rintro e w3 ⟨v3,rfl,ho3,hb3⟩;have EW:=az (ho3.more HG.o.size);have iR:=az (HG.o.old hb3);clear ho3 hb3;go_wp2;go_ret2;exact⟨v3,yA M,by rw[HQ.o];rfl,by rw[HQ.o];exact EW.o,iR.o,by rw[HQ.o]⟩
  obtain⟨b,o,hab⟩:=EZ.some hl;dsimp only at hab;subst hab;rw[if_neg hl]at HQ;have hln:pl.length<=900000:=by rcases hfl with h|h;exact absurd h hl;omega
  have HR:=az EZ.row.row;clear EZ hfl hl;go_wp2_with fail;refine(jr (some ⟨b,o,none⟩) pl pc _ HR.o hln).mono ?_;rintro e w3 ⟨v3,rfl,ho3,hb3⟩;have EW:=az (ho3.more HG.o.size);have iR:=az (HG.o.old hb3);clear ho3 hb3;go_wp2;go_ret2;exact⟨v3,yA M,by rw[HQ.o];rfl,by rw[HQ.o];exact EW.o,iR.o,by rw[HQ.o]⟩
 have HQ:Hid (NP.bQ M.view j p=(([],NP.asked M.view j p),M.view)):=az (by unfold NP.bQ;dsimp only;rw[if_neg he]);clear hok h hB;go_in;go_wp2_with fail;refine(cu HC.o vJ.o _ _).mono ?_;rintro e w' ⟨rfl,rfl⟩;generalize NP.asked M.view j p=n at*;have hn:((n:Int) != 0)=true:=by simp[he]
 go_wp2;go_ret2;exact⟨_,M,by rw[HQ.o];rfl,by rw[HQ.o];exact Own.nil _ _,Goes.refl HC.o,by rw[HQ.o]⟩
def dD (aA:Nat)(w:acL)(k:Nat)(M:dA)(r:Int×NP.bX)(e:Ending)(w':acL):Prop :=
 ∃M',e=ab4 (vi r.1)/\Goes aA w k M w' M'/\M'.view=r.2
variable{w':acL}{M':dA}
def dD.mk {r:Int×NP.bX}{n:Int}{V:NP.bX}(hr:r=(n,V))(hg:Goes aA w k M w' M')(hv:M'.view=V):dD aA w k M r (ab4 (vi n)) w' :=
 ⟨M',by rw[hr],hg,by rw[hr];exact hv⟩
def MH (M:dA)(d:Bool):dA:={M with down:=d}
variable{l:List Nat}
def Own.aB {b':Nat}{v:acK}(h:Own w' b' v l)(hs:∀x∈l,x<256)(hl:0<l.length):∃q:sD,v=q.v/\q.l=l/\q.ok aA w':=by
 obtain⟨a,c,rfl,hr,h1,h2,h3⟩:=h.Db (aA:=aA) hs;exact⟨⟨a,l,c⟩,rfl,rfl,hr,h1,h2,λe=>by dsimp only at e;rw[e]at hl;simp at hl⟩
def faults_small (h:uM aA w M.fa M.fs):NP.small M.view.fs:=by
 intro f hf;obtain⟨g,hg,rfl⟩:=aay.1 hf;exact(h.data g hg).1.row.small
def fault_row (h:uM aA w M.fa M.fs)(a:Int):dx aA w (faultM M.fs a).a (faultM M.fs a).l:=by
 rcases faultM_mem M.fs a with e|e;rw[e];exact dx.nil _ _ _;exact(h.data _ e).1
def nC (h:aT aA w k M)(hok:M.view.ok)(j p:Int)(a:Option acM)(l:List Nat)(c:Nat)(hr:dx aA w a l):ac4 prog 204 #[ptr k,vi j,vi p,aco a l.length c] w (dD aA w k M (NP.program M.view j p l)):=by
 have hB:=pE hok;have HC:=az h;have vJ:=az hB;have HR:=az hr;obtain⟨c0,c1,c2,c3,c4,c5,c6,c7,c8⟩:=h.cells;clear c0 c1 c2 c4 c5 c6 c7 c8 hr;by_cases he:NP.asked M.view j p=0
 ·obtain⟨hd,hj0,hj1,hp0,hp1⟩:=NP.fB he;change j<M.B at hj1;change p<M.P at hp1;obtain⟨i,rfl⟩:∃i:Nat,j=i:=⟨j.toNat,aa⟩;obtain⟨q,rfl⟩:∃q:Nat,p=q:=⟨p.toNat,aa⟩;have hi:i<M.bs.length:=aa;have hps:=MF hok hi;have hPP:=(EY hok).2.1;have hS:=(EY hok).1;have HQ:Hid (NP.program M.view i q l=if l.length=M.S+32 then
    (if (M.bs.getD i default).bad then (13,M.view)
    else if (M.bs.getD i default).broken||decide ((q:Int)≠((M.bs.getD i default).next:Int)) then (10,M.view)
    else if (faultM M.fs M.since).aL=1 then (4,NP.qg (NP.stroke M.view))
    else if (faultM M.fs M.since).aL=2 then (4,NP.qg (NP.ni (NP.stroke M.view) i (NP.Ad (M.S+32) (faultM M.fs M.since).l)))
    else if (faultM M.fs M.since).aL=3 then (11,NP.ni (NP.stroke M.view) i (NP.Ad (M.S+32) (faultM M.fs M.since).l))
    else (0,NP.ni (NP.stroke M.view) i l)) else (1,M.view)):=az (by
   unfold NP.program
   dsimp only
   rw[if_pos he,acW,kM hi]
   have:NP.faultOf M.view.fs M.view.since=(faultM M.fs M.since).view:=(faultM_view M.fs M.since).symm
   rw[this]
   rfl)
  have HE:=az he;have d1:w.cell? ⟨M.kb,i*5+1,none⟩=some (vi (M.bs.getD i default).next):=h.iG hi (j:=1) ag;have d2:w.cell? ⟨M.kb,i*5+2,none⟩=some (acg (M.bs.getD i default).broken):=h.iG hi (j:=2) ag;have d3:w.cell? ⟨M.kb,i*5+3,none⟩=some (acg (M.bs.getD i default).bad):=h.iG hi (j:=3) ag;clear hd he hok h;by_cases hlen:l.length=M.S+32
  ·rw[if_pos hlen]at HQ;have hlc:((l.length:Int) != (M.S:Int)+32)=false:=by simp;omega
   cases hbad:(M.bs.getD i default).bad
   ·cases hbr:(M.bs.getD i default).broken
    ·by_cases hn:q=(M.bs.getD i default).next
     ·rw[hbad,hbr,<-hn]at HQ;rw[if_neg ai,if_neg ai]at HQ;rw[hbad]at d3;rw[hbr]at d2;rw[<-hn]at d1;have HN:=az hn;have hqq:((q:Int) != (q:Int))=false:=ai;have HL:=az hlen;clear hbad hbr hn hlen;go_in;go_wp2_with fail;refine(cu HC.o vJ.o _ _).mono ?_;rintro e w' ⟨rfl,rfl⟩;rw[HE.o];go_wp2_with fail;refine(full_any HC.o hS).mono ?_;rintro e w' ⟨rfl,rfl⟩;have WB:((l.length:Int) != ((M.S+32:Nat):Int))=false:=by have:=HL.o;simp;omega
      go_wp2_with fail;refine(fault_any HC.o).mono ?_;rintro e w2 ⟨rfl,hg2⟩;have HG:=az hg2;have yB:=az (fault_row hg2.at_.faults M.since);change Hid (dx aA w2 (faultM M.fs M.since).a (faultM M.fs M.since).l) at yB;have QR:=az (NP.uL (n:=M.S+32) yB.o.row.small);clear hg2 d1 d2 d3 c3 hqq;generalize faultM M.fs M.since=f at*;obtain⟨fat,fk,fa,fl,fc⟩:=f;dsimp only at*;have HA:Hid (Goes aA w' k M (w2.alloc (ach #[vi fat,vi fk,aco fa fl.length fc] 186)) (iw M)):=az (HG.o.old ax);have vK:Hid (dx aA (w2.alloc (ach #[vi fat,vi fk,aco fa fl.length fc] 186)) fa fl):=az (yB.o.old ax)
      have HR2:Hid (bE (w2.alloc (ach #[vi fat,vi fk,aco fa fl.length fc] 186)) a l):=az ((HR.o.aJ HA.o.aJ HC.o.mine).row);have F9:=aD.new w2 186 #[vi fat,vi fk,aco fa fl.length fc];go_upto_region 12 with fail;clear hlc WB;generalize w2.alloc (ach #[vi fat,vi fk,aco fa fl.length fc] 186)=w3 at*;have k1:w3.cell? ⟨w2.heap.size,1,none⟩=some (vi fk):=F9.cell 1;have k2:w3.cell? ⟨w2.heap.size,2,none⟩=some (aco fa fl.length fc):=F9.cell 2;clear F9 yB HG;generalize w2.heap.size=h2 at*;have c6:w3.cell? ⟨k,6,none⟩=some (acg M.down):=HA.o.at_.aW.cell 6;have z6:=HA.o.at_.aW.frozen 6
      have hnx:(M.bs.getD i default).next<(M.bs.getD i default).ps.length:=by rw[<-HN.o];omega
      have HI:=az hi;have iH:=az hnx;have WC:=az (show (M.bs.getD i default).ps.length<=32 by omega);clear hnx hps hi hPP hB hj0 hj1 hp0 hp1;by_cases h1:fk=1
      ·subst h1;have hQ:=HQ.o;rw[if_pos rfl]at hQ;have vz:=az hQ;clear hQ;go_wp2;go_ret;exact dD.mk vz.o (HA.o.trans (HA.o.at_.field (M':=MH (iw M) true) 6 (acg true) rfl rfl rfl rfl HA.o.at_.faults)) rfl
      by_cases h2':fk=2
      ·subst h2';have hQ:=HQ.o;rw[if_neg ag,if_pos rfl]at hQ;have vz:=az hQ;clear hQ h1;go_wp2_with fail;refine(Ib HA.o.at_ hS fa fl fc vK.o.row).mono ?_;rintro e w4 ⟨v4,rfl,zm,hb4⟩;obtain⟨pq,rfl,MI,hqk⟩:=Own.aB (aA:=aA) zm QR.o (by rw[NP.nA];omega);have GJ:=az (HA.o.old hb4);have HQL:=az MI;have HQK:=az hqk;clear zm MI hqk hb4 c6 z6;go_wp2_with fail;refine(sI GJ.o.at_ i HI.o iH.o WC.o pq HQK.o).mono ?_;rintro e w5 ⟨rfl,hg5⟩;have zo:=az (GJ.o.trans hg5);clear hg5;have c6:w5.cell? ⟨k,6,none⟩=some (acg M.down):=zo.o.at_.aW.cell 6
       have z6:=zo.o.at_.aW.frozen 6;go_wp2;go_ret;exact dD.mk vz.o (zo.o.trans (zo.o.at_.field (M':=MH (Oj (iw M) i pq) true) 6 (acg true) rfl rfl rfl rfl zo.o.at_.faults)) (by
        show NP.qg (Oj (iw M) i pq).view=_
        rw[xA (M:=iw M) HI.o,HQL.o]
        rfl)
      by_cases h3:fk=3
      ·subst h3;have hQ:=HQ.o;rw[if_neg ag,if_neg ag,if_pos rfl]at hQ;have vz:=az hQ;clear hQ h1 h2';go_wp2_with fail;refine(Ib HA.o.at_ hS fa fl fc vK.o.row).mono ?_;rintro e w4 ⟨v4,rfl,zm,hb4⟩;obtain⟨pq,rfl,MI,hqk⟩:=Own.aB (aA:=aA) zm QR.o (by rw[NP.nA];omega);have GJ:=az (HA.o.old hb4);have HQL:=az MI;have HQK:=az hqk;clear zm MI hqk hb4 c6 z6;go_wp2_with fail;refine(sI GJ.o.at_ i HI.o iH.o WC.o pq HQK.o).mono ?_;rintro e w5 ⟨rfl,hg5⟩;have zo:=az (GJ.o.trans hg5);clear hg5;go_wp2;go_ret;exact dD.mk vz.o zo.o (by
        rw[xA (M:=iw M) HI.o,HQL.o]
        rfl)
      have hQ:=HQ.o;rw[if_neg h1,if_neg h2',if_neg h3]at hQ;have vz:=az hQ;clear hQ;go_wp2_with fail;refine(jr a l c _ HR2.o (by have:=HL.o;omega)).mono ?_;rintro e w4 ⟨v4,rfl,zm,hb4⟩;obtain⟨pq,rfl,MI,hqk⟩:=Own.aB (aA:=aA) zm HR.o.row.small (by have:=HL.o;omega);have GJ:=az (HA.o.old hb4);have HQL:=az MI;have HQK:=az hqk;clear zm MI hqk hb4 c6 z6;go_wp2_with fail;refine(sI GJ.o.at_ i HI.o iH.o WC.o pq HQK.o).mono ?_;rintro e w5 ⟨rfl,hg5⟩;have zo:=az (GJ.o.trans hg5);clear hg5;go_wp2;go_ret;exact dD.mk vz.o zo.o (by
       rw[xA (M:=iw M) HI.o,HQL.o]
       rfl)
     rw[hbad,hbr]at HQ;rw[if_neg ai,if_pos (by simp only[Bool.false_or,decide_eq_true_eq];omega)]at HQ;rw[hbad]at d3;rw[hbr]at d2;generalize (M.bs.getD i default).next=nx at*;have hqq:((q:Int) != (nx:Int))=true:=by simp;omega
     clear hbad hbr hlen hn;go_in;go_wp2_with fail;refine(cu HC.o vJ.o _ _).mono ?_;rintro e w' ⟨rfl,rfl⟩;rw[HE.o];go_wp2_with fail;refine(full_any HC.o hS).mono ?_;rintro e w' ⟨rfl,rfl⟩;have WB:((l.length:Int) != ((M.S+32:Nat):Int))=false:=by simpa using hlc
     go_wp2;go_ret;exact dD.mk HQ.o (Goes.refl HC.o) rfl
    rw[hbad,hbr]at HQ;rw[if_neg ai,if_pos ai]at HQ;rw[hbad]at d3;rw[hbr]at d2;clear hbad hbr hlen;go_in;go_wp2_with fail;refine(cu HC.o vJ.o _ _).mono ?_;rintro e w' ⟨rfl,rfl⟩;rw[HE.o];go_wp2_with fail;refine(full_any HC.o hS).mono ?_;rintro e w' ⟨rfl,rfl⟩;have WB:((l.length:Int) != ((M.S+32:Nat):Int))=false:=by simpa using hlc
    go_wp2;go_ret;exact dD.mk HQ.o (Goes.refl HC.o) rfl
   rw[hbad]at HQ;rw[if_pos rfl]at HQ;rw[hbad]at d3;clear hbad hlen;go_in;go_wp2_with fail;refine(cu HC.o vJ.o _ _).mono ?_;rintro e w' ⟨rfl,rfl⟩;rw[HE.o];go_wp2_with fail;refine(full_any HC.o hS).mono ?_;rintro e w' ⟨rfl,rfl⟩;have WB:((l.length:Int) != ((M.S+32:Nat):Int))=false:=by simpa using hlc
   go_wp2;go_ret;exact dD.mk HQ.o (Goes.refl HC.o) rfl
  rw[if_neg hlen]at HQ;have hlc:((l.length:Int) != ((M.S+32:Nat):Int))=true:=by simp;omega
  go_in;go_wp2_with fail;refine(cu HC.o vJ.o _ _).mono ?_;rintro e w' ⟨rfl,rfl⟩;rw[HE.o];go_wp2_with fail;refine(full_any HC.o hS).mono ?_;rintro e w' ⟨rfl,rfl⟩;go_wp2;go_ret;exact dD.mk HQ.o (Goes.refl HC.o) rfl
 have HQ:Hid (NP.program M.view j p l=(NP.asked M.view j p,M.view)):=az (by unfold NP.program;dsimp only;rw[if_neg he]);clear hok h hB;go_in;go_wp2_with fail;refine(cu HC.o vJ.o _ _).mono ?_;rintro e w' ⟨rfl,rfl⟩;generalize NP.asked M.view j p=n at*;have hn:((n:Int) != 0)=true:=by simp[he]
 go_wp2;go_ret;exact dD.mk HQ.o (Goes.refl HC.o) rfl
def Ay (M:dA)(i:Nat):dA:={M with bs:=M.bs.set i {M.bs.getD i default with bad:=true}}
def Az (h:i<M.bs.length):(Ay M i).view=NP.Ac M.view i:=by
 unfold Ay NP.Ac NP.gI;rw[kM h];simp[dA.view,eG.view,ade]
def RQ (h:aT aA w k M)(hok:M.view.ok)(j:Int):ac4 prog 87 #[ptr k,vi j] w (dD aA w k M (NP.mark M.view j)):=by
 have hB:=pE hok;have HC:=az h;have vJ:=az hB;obtain⟨c0,c1,c2,c3,c4,c5,c6,c7,c8⟩:=h.cells;clear c0 c1 c2 c4 c5 c6 c7 c8;by_cases he:NP.asked M.view j 0=0
 ·obtain⟨hd,hj0,hj1,hp0,hp1⟩:=NP.fB he;change j<M.B at hj1;obtain⟨i,rfl⟩:∃i:Nat,j=i:=⟨j.toNat,aa⟩;have hi:i<M.bs.length:=aa;have HQ:Hid (NP.mark M.view i=(0,(Ay M i).view)):=az (by unfold NP.mark;dsimp only;rw[if_pos he,acW,Az hi]);have HE:=az he;have d3:w.cell? ⟨M.kb,i*5+3,none⟩=some (acg (M.bs.getD i default).bad):=h.iG hi (j:=3) ag;have z3:=h.blocks.frozen (i*5+3);have HG:=az (h.Ag hi (j:=3) ag (acg true) {M.bs.getD i default with bad:=true} rfl rfl rfl rfl);clear hd he hok h hp0 hp1;go_in;go_wp2_with fail;refine(cu HC.o vJ.o _ _).mono ?_
  rintro e w' ⟨rfl,rfl⟩;rw[HE.o];go_wp2;go_ret;exact dD.mk HQ.o HG.o rfl
 have HQ:Hid (NP.mark M.view j=(NP.asked M.view j 0,M.view)):=az (by unfold NP.mark;dsimp only;rw[if_neg he]);clear hok h hB;go_in;go_wp2_with fail;refine(cu HC.o vJ.o _ _).mono ?_;rintro e w' ⟨rfl,rfl⟩;generalize NP.asked M.view j 0=n at*;have hn:((n:Int) != 0)=true:=by simp[he]
 go_wp2;go_ret;exact dD.mk HQ.o (Goes.refl HC.o) rfl
section
variable{wr:acL}
def qD (M:dA)(i:Nat)(qs:List sD):dA:={M with bs:=M.bs.set i {M.bs.getD i default with ps:=qs,broken:=true,eF:=NP.qH ((M.bs.getD i default).eF+1)}}
def gV (hi:i<M.bs.length)(qs:List sD):(qD M i qs).bs.getD i default={M.bs.getD i default with ps:=qs,broken:=true,eF:=NP.qH ((M.bs.getD i default).eF+1)}:=by
 unfold qD;dsimp only;rw[NP.iO _ _ _ _ _ hi,if_pos rfl]
def kN (i:Nat)(qs:List sD):(qD M i qs).bs.length=M.bs.length:=abZ ..
variable{n:Nat}{qs:List sD}
def xB (hi:i<M.bs.length)(g:Goes aA w k M wr (qD M i qs))(q:sD)(hq:q.ok aA wr) :
  Goes aA w k M (wr.setCell ⟨(M.bs.getD i default).g,n,none⟩ q.v) (qD M i (qs.set n q)):=by
 have h:=g.at_.aB (i:=i) (p:=n) (by rw[kN];exact hi) q hq;rw[gV hi]at h;have e:({qD M i qs with bs:=(qD M i qs).bs.set i {M.bs.getD i default with ps:=qs.set n q,broken:=true,eF:=NP.qH ((M.bs.getD i default).eF+1)}}:dA)=qD M i (qs.set n q):=by
  unfold qD;dsimp only;rw[ac2]
 rw[e]at h;exact g.trans h
def Ol (hi:i<M.bs.length)(h:qs.map (·.l)=NP.cutTo (M.S+32) l ((M.bs.getD i default).ps.map (·.l)) (M.bs.getD i default).ps.length):(qD M i qs).view=NP.kK M.view i l:=by
 unfold qD NP.kK NP.gI;dsimp only;rw[kM hi];simp only[dA.view,eG.view,ade,h,List.length_map]
def Dh {α:Type}(l:List α)(n:Nat)(d:α):l.set n (l.getD n d)=l:=by
 apply List.ext_getElem?;intro j;rw[List.getElem?_set];split;rename_i h;subst h;split;rename_i h2;rw[aah,aaj h2];rfl;rename_i h2;rw[ac7 aa];rfl
variable{N:Nat}{data:List Nat}{ps:List (List Nat)}
def Ic (h:data.getD n 0=0):NP.cutTo N data ps (n+1)=NP.cutTo N data ps n:=by
 rw[NP.cutTo];rw[h,NP.Ae,if_pos rfl,Dh]
def RS (h:data.getD n 0=1):NP.cutTo N data ps (n+1)=(NP.cutTo N data ps n).set n []:=by
 rw[NP.cutTo];rw[h,NP.Ae,if_neg ag,if_neg ag]
def RU (h:1<data.getD n 0):NP.cutTo N data ps (n+1)=(NP.cutTo N data ps n).set n (aaA N (data.getD n 0)):=by
 rw[NP.cutTo];rw[NP.Ae,if_neg aa,if_pos h]
def dx.lookup {a:Option acM}(h:dx aA w a l)(hn:n<l.length):∃b o,a=some ⟨b,o,none⟩/\w.cell? ⟨b,o+n,none⟩=some (vb (l.getD n 0))/\l.getD n 0<256/\Safe 5 aA w b:=by
 obtain⟨b,o,rfl,h1,h2⟩:=h.row.lookup hn;refine⟨b,o,rfl,h1,h2,?_⟩;rcases h.safe with rfl|⟨b',o',he,hs⟩;simp at hn;injection he with he;injection he with hb ho;subst hb;exact hs
structure D5 (aA:Nat)(w:acL)(k:Nat)(M:dA)(i:Nat)(l:List Nat)(n:Nat)(qs:List sD)(wr:acL):Prop where
 goes:Goes aA w k M wr (qD M i qs)
 len:qs.length=(M.bs.getD i default).ps.length
 say:qs.map (·.l)=NP.cutTo (M.S+32) l ((M.bs.getD i default).ps.map (·.l)) n
def vL (h:aT aA w k M)(hok:M.view.ok)(i:Nat)(hi:i<M.bs.length)(a:Option acM)(l:List Nat)(c:Nat)(hr:dx aA w a l)(hl:l.length<=c)(hc:c<=maxLen) :
  ac4 prog 122 #[ptr k,adj (some ⟨M.kb,i*5,none⟩),aco a l.length c] w λe w'=>e=ab4 (adg #[])/\∃M',Goes aA w k M w' M'/\M'.view=NP.kK M.view i l:=by
 have hps:=MF hok hi;have hPP:=(EY hok).2.1;have hS:=(EY hok).1;have HC:=az h;have HR:=az hr;have hD:=bL (d:=default) hi;have d4:w.cell? ⟨M.kb,i*5+4,none⟩=some (vi (M.bs.getD i default).eF):=h.iG hi (j:=4) ag;have d2:w.cell? ⟨M.kb,i*5+2,none⟩=some (acg (M.bs.getD i default).broken):=h.iG hi (j:=2) ag;have z4:=h.blocks.frozen (i*5+4);have z2:=h.blocks.frozen (i*5+2);have G1:=h.Ag hi (j:=4) ag (vi (wrap64 ((M.bs.getD i default).eF+1))) {M.bs.getD i default with eF:=NP.qH ((M.bs.getD i default).eF+1)} (by rw[<-qY];rfl) rfl rfl rfl
 have hg1:(M.bs.set i {M.bs.getD i default with eF:=NP.qH ((M.bs.getD i default).eF+1)}).getD i default={M.bs.getD i default with eF:=NP.qH ((M.bs.getD i default).eF+1)}:=by
  rw[NP.iO _ _ _ _ _ hi,if_pos rfl]
 have G2:=G1.at_.Ag (i:=i) (j:=2) (by simpa using hi) ag (acg true) {M.bs.getD i default with broken:=true,eF:=NP.qH ((M.bs.getD i default).eF+1)} (by dsimp only;rw[hg1];rfl) (by dsimp only;rw[hg1]) (by dsimp only;rw[hg1]) (by dsimp only;rw[hg1]);have ST:Hid (D5 aA w k M i l 0 (M.bs.getD i default).ps ((w.setCell ⟨M.kb,i*5+4,none⟩ (vi (wrap64 ((M.bs.getD i default).eF+1)))).setCell ⟨M.kb,i*5+2,none⟩ (acg true))):=az ⟨by
  have:=G1.trans G2
  dsimp only at this
  rw[ac2]at this
  exact this,rfl,rfl⟩
 have HI:=az hi;have HD:=az hD;have WC:=az hps;have hlc:l.length<=9223372036854775807:=by unfold maxLen at hc;omega
 clear G1 G2 hg1 h hok hr hD;generalize hx:M.bs.getD i default=x at*;have HX:=az hx;clear hx;go_in;go_upto_region 2 with fail;generalize (w.setCell ⟨M.kb,i*5+4,none⟩ (vi (wrap64 (x.eF+1)))).setCell ⟨M.kb,i*5+2,none⟩ (acg true)=w2 at*;have c0:w2.cell? ⟨M.kb,i*5,none⟩=some (aco (some ⟨x.g,0,none⟩) x.ps.length x.c):=by
  have:=ST.o.goes.at_.iG (i:=i) (j:=0) (by rw[kN];exact hi) ag;rw[gV hi,HX.o]at this;exact this
 rw[hps]at c0;clear d4 d2 z4 z2;go_wp2_with fail;clear c0;go_loopw [22] (λv wr=>∃(n:Nat) (qs:List sD),n<=M.P/\v=vi n/\Hid (D5 aA w k M i l n qs wr)) (λv _=>M.P-(intOf v).toNat)
 case atStart=>exact⟨0,_,aaW _,rfl,ST⟩
 case round =>
  obtain⟨n,qs,hn,rfl,st⟩:=hrel;by_cases hlt:n<M.P
  ·have c0:wr.cell? ⟨M.kb,i*5,none⟩=some (aco (some ⟨x.g,0,none⟩) M.P x.c):=by
    have:=st.o.goes.at_.iG (i:=i) (j:=0) (by rw[kN];exact hi) ag;rw[gV hi,HX.o]at this;have h2:=st.o.len;rw[HX.o,WC.o]at h2;rw[<-h2];exact this
   have hmem:(qD M i qs).bs.getD i default∈(qD M i qs).bs:=bL (by rw[kN];exact hi);have cn:wr.cell? ⟨x.g,n,none⟩=some (qs.getD n default).v:=by
    have:=st.o.goes.at_.Hq (i:=i) (p:=n) (by rw[kN];exact hi) (by rw[gV hi];have:=st.o.len;rw[HX.o,WC.o]at this;dsimp only;omega);rw[gV hi,HX.o]at this;exact this
   have zn:wr.frozen? ⟨x.g,n,none⟩=false:=by
    have:=(st.o.goes.at_.pages _ hmem).frozen n;rw[gV hi,HX.o]at this;exact this
   by_cases hnl:n<l.length
   ·obtain⟨b,o,rfl,hby,hsm,hsf⟩:=(HR.o.aJ st.o.goes.aJ HC.o.mine).lookup hnl;have hne:¬x.g=b:=by
     rintro rfl;have hm:=st.o.goes.at_.mine x.g (acm (acm (by
      have:=ada (f:=λy:eG=>y.g) hmem
      rw[gV hi,HX.o]at this
      exact this)))
     exact hsf.no hm
    have hne':¬b=x.g:=λe=>hne e.symm
    clear hsf hmem;by_cases hy0:l.getD n 0=0
    ·have fV:Hid (D5 aA w k M i l (n+1) qs wr):=az ⟨st.o.goes,st.o.len,by rw[Ic hy0];exact st.o.say⟩;rw[hy0]at hby;clear hy0 hsm cn zn;go_wp2;go_roundw
     case rel=>exact⟨n+1,qs,aa,by go_num,fV⟩
     case measure=>simp[intOf];omega
    by_cases hy1:l.getD n 0=1
    ·have fV:Hid (D5 aA w k M i l (n+1) (qs.set n ⟨none,[],0⟩) (wr.setCell ⟨x.g,n,none⟩ (aco none 0 0))):=az ⟨by
      have:=xB (n:=n) hi st.o.goes ⟨none,[],0⟩ (sD.ok.none _ _)
      rw[HX.o]at this
      exact this,by rw[abZ];exact st.o.len,by rw[RS hy1,ade,st.o.say]⟩
     rw[hy1]at hby;clear hy1 hsm hy0;generalize qs.getD n default=pg at cn;go_wp2;go_roundw
     case rel=>exact⟨n+1,_,aa,by go_num,fV⟩
     case measure=>simp[intOf];omega
    have hy2:1<l.getD n 0:=aa;have G1:Goes aA w k M (wr.setCell ⟨x.g,n,none⟩ (aco none 0 0)) (qD M i (qs.set n ⟨none,[],0⟩)):=by
     have:=xB (n:=n) hi st.o.goes ⟨none,[],0⟩ (sD.ok.none _ _);rw[HX.o]at this;exact this
    have qI:=az G1;have wU:=az st.o.len;have ag5:=az st.o.say;clear hy0 hy1 hsm G1 st;generalize hyy:l.getD n 0=y at*;have HYY:=az hyy;clear hyy;generalize qs.getD n default=pg at cn;have hyb:((y:Int)==0)=false:=by simp;omega
    go_upto_region 8 with fail;clear c0 cn zn hby;generalize wr.setCell ⟨x.g,n,none⟩ (aco none 0 0)=w1 at*;have hmem:(qD M i (qs.set n ⟨none,[],0⟩)).bs.getD i default∈(qD M i (qs.set n ⟨none,[],0⟩)).bs:=bL (by rw[kN];exact hi);have MI:n<(qs.set n ⟨none,[],0⟩).length:=by have:=wU.o;rw[HX.o,WC.o]at this;rw[abZ];omega
    have c0:w1.cell? ⟨M.kb,i*5,none⟩=some (aco (some ⟨x.g,0,none⟩) M.P x.c):=by
     have:=qI.o.at_.iG (i:=i) (j:=0) (by rw[kN];exact hi) ag;rw[gV hi,HX.o]at this;have h2:=wU.o;rw[HX.o,WC.o]at h2;have h4:w1.cell? ⟨M.kb,i*5,none⟩=some (aco (some ⟨x.g,0,none⟩) (qs.set n ⟨none,[],0⟩).length x.c):=this;rw[abZ,h2]at h4;exact h4
    have cn:w1.cell? ⟨x.g,n,none⟩=some (aco none 0 0):=by
     have:=qI.o.at_.Hq (i:=i) (p:=n) (by rw[kN];exact hi) (by rw[gV hi];exact MI);rw[gV hi,HX.o]at this;dsimp only at this;rw[NP.iO _ _ _ _ _ (by rw[abZ]at MI;exact MI),if_pos rfl]at this;exact this
    have zn:w1.frozen? ⟨x.g,n,none⟩=false:=by
     have:=(qI.o.at_.pages _ hmem).frozen n;rw[gV hi,HX.o]at this;exact this
    have bK:Hid (bE w1.drew (some ⟨b,o+n,none⟩) [y]):=az (by
     have:=(((HR.o.aJ qI.o.aJ HC.o.mine).row.drew.drop n).take 1)
     rw[adb hnl,List.take_succ_cons,List.take_zero,show l[n]=l.getD n 0 by rw[aah,aaj hnl];rfl,HYY.o]at this
     exact this)
    have hby:y<256:=by have:=bK.o.small y ai;exact this
    have HFU:Hid (ac4 prog 132 #[ptr k] w1.drew λe w'=>e=ab4 (vi (M.S+32:Nat))/\w'=w1.drew):=az (full_any (M:=qD M i (qs.set n ⟨none,[],0⟩)) (qI.o.old au).at_ hS);have HRP:Hid (ac4 prog 148 #[aco (some ⟨b,o+n,none⟩) 1 (c-n),vi (M.S+32:Nat)] w1.drew λe w'=>∃q:sD,e=ab4 q.v/\q.l=aaA (M.S+32) y/\q.ok aA w'/\acN w1.heap.size w1 w'):=az ((Kb (some ⟨b,o+n,none⟩) y (M.S+32) (c-n) w1.drew bK.o aa aa).mono (by
     rintro e w' ⟨v',rfl,ho,hb⟩
     obtain⟨q,rfl,hq1,hq2⟩:=Own.aB (aA:=aA) ho (by intro z hz;rw[(List.mem_replicate.1 hz).2];exact hby) ai
     exact⟨q,rfl,hq1,hq2,au.trans hb⟩))
    have q0:(0:Int)<=(n:Int):=aa;have q1:(n:Int)<=(n:Int)+1:=aa;have q2:(n:Int)+1<=(c:Int):=aa;have q3:((n:Int)+1).toNat=n+1:=aa;have q4:¬c=n:=aa;have q5:(0:Int)<=(n:Int)+1:=aa;have q6:IntKind.i64.wrap ((n:Int)+1)=(n:Int)+1:=IntWalk.i64_in _ aa;have q7:(n:Int)<(M.P:Int):=aa;have c0d:w1.drew.cell? ⟨M.kb,i*5,none⟩=some (aco (some ⟨x.g,0,none⟩) M.P x.c):=c0;have C0:=az c0;have CN:=az cn;have ZN:=az zn;have ig:=az (lU cn);have Om:Hid ((⟨x.g,n,none⟩:acM)≠⟨M.kb,i*5,none⟩):=az (λe=>(HC.o.EN HD.o).2 (by injection e));clear hmem MI c0 cn zn;go_region_held3 (λw'=>w'.cell? ⟨M.kb,i*5,none⟩=some (aco (some ⟨x.g,0,none⟩) M.P x.c))
     (first
      |exact c0d
      |exact cell_below C0.o hb3
      |exact(ac6 _ _ _ _ Om.o).trans (cell_below C0.o hb3))
     (first
      |(go_at_call 132;refine(HFU.o).mono ?_;rintro e w' ⟨rfl,rfl⟩)
      |(go_at_call 148;refine(HRP.o).mono ?_;rintro e w3 ⟨pq,rfl,hq1,hq2,hb3⟩;have cn3:=cell_below CN.o hb3;have zn3:=(hb3.frozen ig.o).trans ZN.o;have vz:=az hq1;clear hq1))
    all_goals
     have fV:Hid (D5 aA w k M i l (n+1) (qs.set n pq) (w3.setCell ⟨x.g,n,none⟩ pq.v)):=az ⟨by
      have:=xB (n:=n) hi (qI.o.old hb3) pq hq2
      rw[HX.o,ac2]at this
      exact this,by rw[abZ];exact wU.o,by rw[RU (by rw[HYY.o];exact hy2),ade,ag5.o,vz.o,HYY.o]⟩
     go_wp2;go_roundw
     case rel=>exact⟨n+1,_,aa,by go_num,fV⟩
     case measure=>simp[intOf];omega
   have fV:Hid (D5 aA w k M i l (n+1) qs wr):=az ⟨st.o.goes,st.o.len,by rw[Ic (by rw[aah,ac7 aa];rfl)];exact st.o.say⟩;clear cn zn;go_wp2;go_roundw
   case rel=>exact⟨n+1,qs,aa,by go_num,fV⟩
   case measure=>simp[intOf];omega
  obtain rfl:n=M.P:=aa;go_wp2_with fail;go_end0;exact⟨rfl,_,st.o.goes,Ol HI.o (by rw[HX.o,WC.o,<-HX.o];exact st.o.say)⟩
end
section
variable{wr:acL}
def kY.RV {bs:List eG}{g n c:Nat}(h:kY w 140 5 g n c (bs.flatMap eG.cells)){j:Nat}(hi:i<bs.length)(hj:j<5)(v:acK)(y:eG)(hy:y.cells=(bs.getD i default).cells.set j v) :
  kY (w.setCell ⟨g,i*5+j,none⟩ v) 140 5 g n c ((bs.set i y).flatMap eG.cells):=by
 rw[<-flat_set eG.jq default bs i j y v hi hj hy];exact h.set _ v
def Oo (h:l.Nodup)(i G:Nat)(hG:∀x∈l,x≠G):(l.set i G).Nodup:=by
 have hp:=List.pairwise_iff_getElem.1 h;refine List.pairwise_iff_getElem.2 λa b ha hb hab=>?_
 have ha':a<l.length:=by simpa using ha
 have hb':b<l.length:=by simpa using hb
 rw[List.getElem_set,List.getElem_set];split;split;omega;exact λe=>hG _ (List.getElem_mem hb') e.symm
 split;exact hG _ (List.getElem_mem ha');exact hp a b ha' hb' hab
def aT.fresh (h:aT aA w k M)(hi:i<M.bs.length)(P:Nat)(hP:P<=32)(wr:Int) :
  Goes aA w k M ((((((w.setCell ⟨M.kb,i*5,none⟩ (aco (some ⟨w.heap.size,0,none⟩) P P)).setCell ⟨M.kb,i*5+1,none⟩ (vi 0)).setCell ⟨M.kb,i*5+2,none⟩ (acg false)).setCell ⟨M.kb,i*5+3,none⟩ (acg false)).setCell ⟨M.kb,i*5+4,none⟩ (vi wr)).alloc (ach (madeCells #[aco none 0 0] P) 23))
   {M with bs:=M.bs.set i ⟨w.heap.size,P,aaA P ⟨none,[],0⟩,0,false,false,wr⟩}:=by
 have hl:=λ(y:eG)=>show i<(M.bs.set i y).length by simpa using hi
 have hg:=λ(y:eG)=>show (M.bs.set i y).getD i default=y by rw[NP.iO _ _ _ _ _ hi,if_pos rfl]
 have a0:=h.blocks.RV hi (j:=0) ag (aco (some ⟨w.heap.size,0,none⟩) P P) {M.bs.getD i default with g:=w.heap.size,c:=P,ps:=aaA P ⟨none,[],0⟩} ai;have a1:=a0.RV (hl _) (j:=1) ag (vi 0) {M.bs.getD i default with g:=w.heap.size,c:=P,ps:=aaA P ⟨none,[],0⟩,next:=0} (by rw[hg];simp);rw[ac2]at a1;have a2:=a1.RV (hl _) (j:=2) ag (acg false) {M.bs.getD i default with g:=w.heap.size,c:=P,ps:=aaA P ⟨none,[],0⟩,next:=0,broken:=false} (by rw[hg];simp);rw[ac2]at a2;have a3:=a2.RV (hl _) (j:=3) ag (acg false) {M.bs.getD i default with g:=w.heap.size,c:=P,ps:=aaA P ⟨none,[],0⟩,next:=0,broken:=false,bad:=false} (by rw[hg];simp)
 rw[ac2]at a3;have a4:=a3.RV (hl _) (j:=4) ag (vi wr) ⟨w.heap.size,P,aaA P ⟨none,[],0⟩,0,false,false,wr⟩ (by rw[hg];simp);rw[ac2]at a4;have a5:=a4.old (ak.alloc aj (ach (madeCells #[aco none 0 0] P) 23));have hkl:M.kb<w.heap.size:=h.blocks.lt;have hq:aP (λn=>n=M.kb) w ((((((w.setCell ⟨M.kb,i*5,none⟩ (aco (some ⟨w.heap.size,0,none⟩) P P)).setCell ⟨M.kb,i*5+1,none⟩ (vi 0)).setCell ⟨M.kb,i*5+2,none⟩ (acg false)).setCell ⟨M.kb,i*5+3,none⟩ (acg false)).setCell ⟨M.kb,i*5+4,none⟩ (vi wr)).alloc (ach (madeCells #[aco none 0 0] P) 23)) :=
  ((((((aP.refl (λn=>n=M.kb) w).setCell (p:=⟨M.kb,i*5,none⟩) (ack rfl) _).setCell (p:=⟨M.kb,i*5+1,none⟩) (ack rfl) _).setCell (p:=⟨M.kb,i*5+2,none⟩) (ack rfl) _).setCell (p:=⟨M.kb,i*5+3,none⟩) (ack rfl) _).setCell (p:=⟨M.kb,i*5+4,none⟩) (ack rfl) _).alloc _
 have hF:∀n,n=M.kb->Mine aA w n:=λn e=>h.mine n (acm (ack e))
 have n0:kY ((((((w.setCell ⟨M.kb,i*5,none⟩ (aco (some ⟨w.heap.size,0,none⟩) P P)).setCell ⟨M.kb,i*5+1,none⟩ (vi 0)).setCell ⟨M.kb,i*5+2,none⟩ (acg false)).setCell ⟨M.kb,i*5+3,none⟩ (acg false)).setCell ⟨M.kb,i*5+4,none⟩ (vi wr)).alloc (ach (madeCells #[aco none 0 0] P) 23)) 23 1 w.heap.size P P ((aaA P (⟨none,[],0⟩:sD)).map (·.v)):=by
  have:=kY.lit (((((w.setCell ⟨M.kb,i*5,none⟩ (aco (some ⟨w.heap.size,0,none⟩) P P)).setCell ⟨M.kb,i*5+1,none⟩ (vi 0)).setCell ⟨M.kb,i*5+2,none⟩ (acg false)).setCell ⟨M.kb,i*5+3,none⟩ (acg false)).setCell ⟨M.kb,i*5+4,none⟩ (vi wr)) 23 1 P (madeCells #[aco none 0 0] P) (by unfold maxLen;omega) (by simp[madeCells]);rw[toList_madeCells_one]at this;simp only[size_set]at this;rw[List.map_replicate];exact this
 generalize ((((((w.setCell ⟨M.kb,i*5,none⟩ (aco (some ⟨w.heap.size,0,none⟩) P P)).setCell ⟨M.kb,i*5+1,none⟩ (vi 0)).setCell ⟨M.kb,i*5+2,none⟩ (acg false)).setCell ⟨M.kb,i*5+3,none⟩ (acg false)).setCell ⟨M.kb,i*5+4,none⟩ (vi wr)).alloc (ach (madeCells #[aco none 0 0] P) 23))=w' at*;clear a0 a1 a2 a3 a4;have V3:(M.bs.set i (⟨w.heap.size,P,aaA P ⟨none,[],0⟩,0,false,false,wr⟩:eG)).map (·.g)=(M.bs.map (·.g)).set i w.heap.size:=ade ..;have hbase:aA<=w.heap.size:=Nat.le_of_lt (Nat.lt_of_le_of_lt (h.low k (ack rfl)) h.aW.lt);have Y2:∀n,dA.foot {M with bs:=M.bs.set i ⟨w.heap.size,P,aaA P ⟨none,[],0⟩,0,false,false,wr⟩} k n->M.foot k n\/w.heap.size=n:=by
  intro n hn;rcases hn with rfl|rfl|hn;exact ack (ack rfl);exact ack (acm (ack rfl));dsimp only at hn;rw[V3]at hn;rcases List.mem_or_eq_of_mem_set hn with hn|rfl;exact ack (acm (acm hn));exact acm rfl
 refine⟨⟨?_,?_,?_,?_,?_,h.faults.aJ hq hF,?_⟩,hq.mono (λn _ e=>acm (ack e)),?_⟩;have:=h.aW.aJ hq h.Mw.symm;simpa[dA.cs] using this;dsimp only;rw[abZ];exact a5;intro x hx;rcases nM hx with rfl|⟨n,hne,hn,rfl⟩;dsimp only;rw[abP];exact n0;exact(h.pages _ (bL hn)).aJ hq (h.EN (bL hn)).2;dsimp only;rw[V3];refine Oo h.nodup i _ λx hx e=>?_
 obtain⟨y,hy,rfl⟩:=aay.1 hx;have:=(h.pages y hy).lt;omega;intro x hx p hp;rcases nM hx with rfl|⟨n,hne,hn,rfl⟩;rw[(List.mem_replicate.1 hp).2];exact sD.ok.none _ _;exact(h.rows _ (bL hn) p hp).aJ hq hF;intro n hn;rcases Y2 n hn with h1|rfl;exact h.low n h1;exact hbase;intro n hn;rcases Y2 n hn with h1|rfl;exact ack h1;exact acm aj
def Ke:(prog.info? 23).map (λi=>(i.zero,i.size,i.bytes))=some (some (aco none 0 0),1,24):=ah
def AA (n:Nat)(hn:n<=1000000)(w:acL):(Instr.makeSlice 32 (.int .i64 (n:Int)) (.int .i64 (n:Int))).run prog w=.ok (.slice (some ⟨w.heap.size,0,none⟩) n n) (w.alloc (.cells (madeCells #[.slice none 0 0] n) 23)) :=
 run_make_row' 32 23 (.slice none 0 0) 24 underlying32 Ke rfl .i64 .i64 n aa aa w
def sJ (h:aT aA w k M)(hok:M.view.ok)(j:Int):ac4 prog 86 #[ptr k,vi j] w (dD aA w k M (NP.erase M.view j)):=by
 have hB:=pE hok;have HC:=az h;have vM:=az hok;have vJ:=az hB;obtain⟨c0,c1,c2,c3,c4,c5,c6,c7,c8⟩:=h.cells;clear c0 c1 c2 c4 c5 c6 c7 c8;by_cases he:NP.asked M.view j 0=0
 ·obtain⟨hd,hj0,hj1,hp0,hp1⟩:=NP.fB he;change j<M.B at hj1;obtain⟨i,rfl⟩:∃i:Nat,j=i:=⟨j.toNat,aa⟩;have hi:i<M.bs.length:=aa;have hPP:=(EY hok).2.1;have HQ:Hid (NP.erase M.view i=if (M.bs.getD i default).bad then (13,M.view)
    else if (faultM M.fs M.since).aL=1 then (4,NP.qg (NP.stroke M.view))
    else if (faultM M.fs M.since).aL=2 then (4,NP.qg (NP.kK (NP.stroke M.view) i (faultM M.fs M.since).l))
    else if (faultM M.fs M.since).aL=3 then (11,NP.kK (NP.stroke M.view) i (faultM M.fs M.since).l)
    else (0,NP.gI (NP.stroke M.view) i ⟨aaA M.P [],0,false,false,NP.qH ((M.bs.getD i default).eF+1)⟩)):=az (by
   unfold NP.erase
   dsimp only
   rw[if_pos he,acW,kM hi]
   have:NP.faultOf M.view.fs M.view.since=(faultM M.fs M.since).view:=(faultM_view M.fs M.since).symm
   rw[this]
   rfl)
  have HE:=az he;have d3:w.cell? ⟨M.kb,i*5+3,none⟩=some (acg (M.bs.getD i default).bad):=h.iG hi (j:=3) ag;clear hd he hok h hp0 hp1;cases hbad:(M.bs.getD i default).bad
  ·rw[hbad]at HQ;rw[if_neg ai]at HQ;rw[hbad]at d3;clear hbad;go_in;go_wp2_with fail;refine(cu HC.o vJ.o _ _).mono ?_;rintro e w' ⟨rfl,rfl⟩;rw[HE.o];go_wp2_with fail;refine(fault_any HC.o).mono ?_;rintro e w2 ⟨rfl,hg2⟩;have HG:=az hg2;have hdat:dx aA w2 (faultM M.fs M.since).a (faultM M.fs M.since).l/\(faultM M.fs M.since).l.length<=(faultM M.fs M.since).c/\(faultM M.fs M.since).c<=maxLen:=by
    rcases faultM_mem M.fs M.since with e|e;rw[e];exact⟨dx.nil _ _ _,aj,aaW _⟩;exact hg2.at_.faults.data _ e
   have yB:=az hdat.1;have D6:=az hdat.2;clear hg2 d3 c3 hdat;generalize faultM M.fs M.since=f at*;obtain⟨fat,fk,fa,fl,fc⟩:=f;dsimp only at*;have HA:Hid (Goes aA w' k M (w2.alloc (ach #[vi fat,vi fk,aco fa fl.length fc] 186)) (iw M)):=az (HG.o.old ax);have vK:Hid (dx aA (w2.alloc (ach #[vi fat,vi fk,aco fa fl.length fc] 186)) fa fl):=az (yB.o.old ax);have F9:=aD.new w2 186 #[vi fat,vi fk,aco fa fl.length fc];go_upto_region 8 with fail;generalize w2.alloc (ach #[vi fat,vi fk,aco fa fl.length fc] 186)=w3 at*
   have k1:w3.cell? ⟨w2.heap.size,1,none⟩=some (vi fk):=F9.cell 1;have k2:w3.cell? ⟨w2.heap.size,2,none⟩=some (aco fa fl.length fc):=F9.cell 2;clear F9 yB HG;generalize w2.heap.size=h2 at*;have c6:w3.cell? ⟨k,6,none⟩=some (acg M.down):=HA.o.at_.aW.cell 6;have z6:=HA.o.at_.aW.frozen 6;have HI:=az hi;have adm:Hid ((iw M).view.ok):=az (NP.ek vM.o);by_cases h1:fk=1
   ·subst h1;have hQ:=HQ.o;rw[if_pos rfl]at hQ;have vz:=az hQ;clear hQ;go_wp2;go_ret;exact dD.mk vz.o (HA.o.trans (HA.o.at_.field (M':=MH (iw M) true) 6 (acg true) rfl rfl rfl rfl HA.o.at_.faults)) rfl
   by_cases h2':fk=2
   ·subst h2';have hQ:=HQ.o;rw[if_neg ag,if_pos rfl]at hQ;have vz:=az hQ;clear hQ h1 c6 z6;go_wp2_with fail;refine(vL HA.o.at_ adm.o i HI.o fa fl fc vK.o D6.o.1 D6.o.2).mono ?_;rintro e w5 ⟨rfl,M5,hg5,hv5⟩;have zo:=az (HA.o.trans hg5);have HV5:=az hv5;clear hg5 hv5;have c6:w5.cell? ⟨k,6,none⟩=some (acg M5.down):=zo.o.at_.aW.cell 6;have z6:=zo.o.at_.aW.frozen 6;go_wp2;go_ret;exact dD.mk vz.o (zo.o.trans (zo.o.at_.field (M':=MH M5 true) 6 (acg true) rfl rfl rfl rfl zo.o.at_.faults)) (by
     show NP.qg M5.view=_
     rw[HV5.o]
     rfl)
   by_cases h3:fk=3
   ·subst h3;have hQ:=HQ.o;rw[if_neg ag,if_neg ag,if_pos rfl]at hQ;have vz:=az hQ;clear hQ h1 h2' c6 z6;go_wp2_with fail;refine(vL HA.o.at_ adm.o i HI.o fa fl fc vK.o D6.o.1 D6.o.2).mono ?_;rintro e w5 ⟨rfl,M5,hg5,hv5⟩;have zo:=az (HA.o.trans hg5);have HV5:=az hv5;clear hg5 hv5;go_wp2;go_ret;exact dD.mk vz.o zo.o HV5.o
   have hQ:=HQ.o;rw[if_neg h1,if_neg h2',if_neg h3]at hQ;have vz:=az hQ;clear hQ;go_upto_region 19 with fail;have hmk:=AA M.P aa;have c1:w3.cell? ⟨k,1,none⟩=some (vi M.P):=HA.o.at_.aW.cell 1;have d0:w3.cell? ⟨M.kb,i*5,none⟩=some (aco (some ⟨(M.bs.getD i default).g,0,none⟩) (M.bs.getD i default).ps.length (M.bs.getD i default).c):=HA.o.at_.iG (i:=i) (j:=0) hi ag;have d1:w3.cell? ⟨M.kb,i*5+1,none⟩=some (vi (M.bs.getD i default).next):=HA.o.at_.iG (i:=i) (j:=1) hi ag;have d2:w3.cell? ⟨M.kb,i*5+2,none⟩=some (acg (M.bs.getD i default).broken):=HA.o.at_.iG (i:=i) (j:=2) hi ag
   have d3:w3.cell? ⟨M.kb,i*5+3,none⟩=some (acg (M.bs.getD i default).bad):=HA.o.at_.iG (i:=i) (j:=3) hi ag;have d4:w3.cell? ⟨M.kb,i*5+4,none⟩=some (vi (M.bs.getD i default).eF):=HA.o.at_.iG (i:=i) (j:=4) hi ag;have z0:w3.frozen? ⟨M.kb,i*5,none⟩=false:=HA.o.at_.blocks.frozen _;have z1:w3.frozen? ⟨M.kb,i*5+1,none⟩=false:=HA.o.at_.blocks.frozen _;have z2:w3.frozen? ⟨M.kb,i*5+2,none⟩=false:=HA.o.at_.blocks.frozen _;have z3:w3.frozen? ⟨M.kb,i*5+3,none⟩=false:=HA.o.at_.blocks.frozen _;have z4:w3.frozen? ⟨M.kb,i*5+4,none⟩=false:=HA.o.at_.blocks.frozen _;have hkl:k<w3.heap.size:=HA.o.at_.aW.lt
   have hkb:M.kb<w3.heap.size:=HA.o.at_.blocks.lt;have aml:¬w3.heap.size=M.kb:=aa;have hkb2:¬M.kb=w3.heap.size:=aa;have HP:=az hPP;generalize M.bs.getD i default=x at*;go_region;go_wp2;go_ret;have hF:=(HA.o.at_.fresh (i:=i) HI.o M.P HP.o (wrap64 (x.eF+1)));refine dD.mk vz.o ((HA.o.trans hF).old au) ?_;unfold NP.gI iw;simp[dA.view,eG.view,ade,NP.stroke,qY]
  rw[hbad]at HQ;rw[if_pos rfl]at HQ;rw[hbad]at d3;clear hbad;go_in;go_wp2_with fail;refine(cu HC.o vJ.o _ _).mono ?_;rintro e w' ⟨rfl,rfl⟩;rw[HE.o];go_wp2;go_ret;exact dD.mk HQ.o (Goes.refl HC.o) rfl
 have HQ:Hid (NP.erase M.view j=(NP.asked M.view j 0,M.view)):=az (by unfold NP.erase;dsimp only;rw[if_neg he]);clear hok h hB;go_in;go_wp2_with fail;refine(cu HC.o vJ.o _ _).mono ?_;rintro e w' ⟨rfl,rfl⟩;generalize NP.asked M.view j 0=n at*;have hn:((n:Int) != 0)=true:=by simp[he]
 go_wp2;go_ret;exact dD.mk HQ.o (Goes.refl HC.o) rfl
end
def jC (w:acL)(a:Option acM)(l:List Int):Prop:=l=[]\/∃b o,a=some ⟨b,o,none⟩/\∀i,i<l.length->w.cell? ⟨b,o+i,none⟩=some (vi (l.getD i 0))
variable{a:Option acM}{l:List Int}
def jC.lookup (h:jC w a l)(hi:i<l.length):∃b o,a=some ⟨b,o,none⟩/\w.cell? ⟨b,o+i,none⟩=some (vi (l.getD i 0)):=by
 rcases h with rfl|⟨b,o,rfl,h⟩;simp at hi;exact⟨b,o,rfl,h i hi⟩
def jC.below (h:jC w a l)(q:acN w.heap.size w w'):jC w' a l:=by
 rcases h with h|⟨b,o,rfl,h⟩;exact ack h;exact acm ⟨b,o,rfl,λi hi=>cell_below (h i hi) q⟩
def idx (x:Int):List Int->Nat->Int
 |[],_=> -1
 |y::l,k=>if x=y then (k:Int) else idx x l (k+1)
def RX {x:Int}(h:k<l.length):idx x (l.drop k) k=if x=l.getD k 0 then (k:Int) else idx x (l.drop (k+1)) (k+1):=by
 rw[adb h,idx,aah,aaj h];rfl
def Oq (a:Option acM)(l:List Int)(c:Nat)(x:Int)(w:acL)(h:jC w a l)(hl:l.length<=1000000):ac4 prog 147 #[aco a l.length c,vi x] w λe w'=>e=ab4 (vi (idx x l 0))/\w'=w:=by
 have H:=az h;clear h;go_in;go_wp2_with fail;go_loop [8] (λi=>∃k:Nat,k<=l.length/\i=vi k/\Hid (idx x l 0=idx x (l.drop k) k)) (λi=>l.length-(intOf i).toNat)
 case atStart=>exact⟨0,aaW _,rfl,az (by rw[List.drop_zero])⟩
 case round =>
  obtain⟨k,hk,rfl,hd⟩:=hrel;by_cases hlt:k<l.length
  ·obtain⟨b,o,rfl,hc⟩:=H.o.lookup hlt;have hdr:=RX (x:=x) hlt;by_cases hx:x=l.getD k 0
   ·rw[if_pos hx]at hdr;have HF:=az (hd.o.trans hdr);rw[<-hx]at hc;clear hdr hx;go_wp2;go_ret;exact⟨bS HF.o.symm,rfl⟩
   rw[if_neg hx]at hdr;have HF:=az (hd.o.trans hdr);generalize l.getD k 0=y at*;have hxy:((x:Int)==y)=false:=by simp[hx]
   clear hdr;go_wp2_with fail;go_round
   case rel=>exact⟨k+1,aa,by go_num,HF⟩
   case measure=>simp[intOf];omega
  obtain rfl:k=l.length:=aa;have HF:Hid (idx x l 0= -1):=az (by rw[hd.o,List.drop_length];rfl);go_wp2;go_ret;exact⟨bS HF.o.symm,rfl⟩
def E8 (a:Option acM)(l:List Int)(c:Nat)(x:Int)(w:acL)(h:jC w a l)(hl:l.length<=1000000):ac4 prog 118 #[aco a l.length c,vi x] w λe w'=>e=ab4 (acg (decide (0<=idx x l 0)))/\w'=w:=by
 have H:=az h;clear h;go_in;go_wp2_with fail;refine(Oq a l c x w H.o hl).mono ?_;rintro e w' ⟨rfl,rfl⟩;generalize hn:idx x l 0=n;have HN:=az hn;clear hn;go_wp2;go_ret;exact⟨aU (by rw[HN.o]),rfl⟩
def Ot (s:Int):decide (0<=idx s [64,128,256,512] 0)=(s==64||s==128||s==256||s==512):=by
 unfold idx idx idx idx idx;by_cases h1:s=64;simp[h1];by_cases h2:s=128;simp[h2];by_cases h3:s=256;simp[h3];by_cases h4:s=512;simp[h4];simp[h1,h2,h3,h4]
def xq (b p s:Int)(w:acL):ac4 prog 79 #[.agg #[vi b,vi p,vi s]] w λe w'=>e=ab4 (acg (NP.bH b p s))/\acN w.heap.size w w':=by
 have h1:aD ((w.alloc (ach #[vi b,vi p,vi s] 103)).alloc (ach #[vi 64,vi 128,vi 256,vi 512] 181)) w.heap.size 103 #[vi b,vi p,vi s]:=(aD.new _ _ _).alloc _;have h2:aD ((w.alloc (ach #[vi b,vi p,vi s] 103)).alloc (ach #[vi 64,vi 128,vi 256,vi 512] 181)) (w.heap.size+1) 181 #[vi 64,vi 128,vi 256,vi 512]:=by
  rw[<-size_alloc w (ach #[vi b,vi p,vi s] 103)];exact aD.new _ _ _
 have HB:Hid (acN w.heap.size w ((w.alloc (ach #[vi b,vi p,vi s] 103)).alloc (ach #[vi 64,vi 128,vi 256,vi 512] 181))):=az (ax.alloc ai _);go_in;go_wp2_with fail;generalize (w.alloc (ach #[vi b,vi p,vi s] 103)).alloc (ach #[vi 64,vi 128,vi 256,vi 512] 181)=w2 at*;have c0:w2.cell? ⟨w.heap.size,0,none⟩=some (vi b):=h1.cell 0;have c1:w2.cell? ⟨w.heap.size,1,none⟩=some (vi p):=h1.cell 1;have c2:w2.cell? ⟨w.heap.size,2,none⟩=some (vi s):=h1.cell 2;have hR:jC w2 (some ⟨w.heap.size+1,0,none⟩) [64,128,256,512]:=acm ⟨_,0,rfl,λi hi=>by
  rw[h2.cell]
  match i,hi with
  |0,_=>rfl
  |1,_=>rfl
  |2,_=>rfl
  |3,_=>rfl⟩
 have HC:Hid (∀n,ac4 prog 118 #[aco (some ⟨w.heap.size+1,0,none⟩) 4 4,vi s] (w2.drewN n) λe w'=>e=ab4 (acg (s==64||s==128||s==256||s==512))/\w'=w2.drewN n):=az λn=>by
  have:=E8 (some ⟨w.heap.size+1,0,none⟩) [64,128,256,512] 4 s (w2.drewN n) (hR.below (below_drewN ak n)) ag;rw[Ot]at this;exact this
 clear h1 h2 hR;by_cases hb1:8<=b
 ·by_cases hb2:b<=128
  ·by_cases hp1:4<=p
   ·by_cases hp2:p<=32
    ·have HQ:=az (show NP.bH b p s=(s==64||s==128||s==256||s==512) by simp[NP.bH,hb1,hb2,hp1,hp2]);generalize (s==64||s==128||s==256||s==512)=q at*;go_quiet ((go_at_call 118;exact ac4.quiet_of_same (HC.o _)));go_wp2;go_ret;exact⟨aU (by rw[HQ.o]),below_drewN HB.o _⟩
    have HQ:=az (show NP.bH b p s=false by simp[NP.bH,hp2]);have hd:decide (p<=32)=false:=by simp[hp2]
    go_quiet (fail);go_wp2;go_ret;exact⟨aU (by rw[HQ.o]),below_drewN HB.o _⟩
   have HQ:=az (show NP.bH b p s=false by simp[NP.bH,hp1]);have hd:decide (4<=p)=false:=by simp[hp1]
   go_quiet (fail);go_wp2;go_ret;exact⟨aU (by rw[HQ.o]),below_drewN HB.o _⟩
  have HQ:=az (show NP.bH b p s=false by simp[NP.bH,hb2]);have hd:decide (b<=128)=false:=by simp[hb2]
  go_quiet (fail);go_wp2;go_ret;exact⟨aU (by rw[HQ.o]),below_drewN HB.o _⟩
 have HQ:=az (show NP.bH b p s=false by simp[NP.bH,hb1]);have hd:decide (8<=b)=false:=by simp[hb1]
 go_quiet (fail);go_wp2;go_ret;exact⟨aU (by rw[HQ.o]),below_drewN HB.o _⟩
abbrev E9:Array acK:=#[aco none 0 0,vi 0,acg false,acg false,vi 0]
def RY:(prog.info? 140).map (λi=>(i.zero,i.size,i.bytes))=some (some (.agg E9),5,48):=ah
def Ou (n:Nat)(hn:n<=1000)(w:acL):(Instr.makeSlice 141 (.int .i64 (n:Int)) (.int .i64 (n:Int))).run prog w=.ok (.slice (some ⟨w.heap.size,0,none⟩) n n) (w.alloc (.cells (madeCells E9 (n*5)) 140)):=by
 obtain⟨i0,hi,hz0,hz1,hz2⟩:=info_parts RY;have:=run_make (P:=prog) w 141 140 i0 (.agg E9) underlying141 hi hz0 .i64 .i64 n n aa (Int.le_refl _) (by rw[hz2];omega) aa;simp only[acW,hz1]at this;exact this
def Ov (z:Array acK)(n:Nat)(hz:z.size=5):(madeCells z (n*5)).toList=(aaA n ()).flatMap λ_=>z.toList:=by
 apply List.ext_getElem?;intro j;by_cases hj:j<n*5;have h1:=flat_get (f:=λ_:Unit=>z.toList) (m:=5) (by intro x;simpa using hz) () (aaA n ()) (j/5) (j%5) (by simp;omega) aa;rw[show j/5*5+j%5=j by omega]at h1;rw[h1];simp[madeCells,hj,hz];rw[Array.getElem?_eq_getElem aa];simp[hz,show j%5<5 by omega];have h1:(madeCells z (n*5)).toList.length<=j:=by simp[madeCells];omega
 have h2:((aaA n ()).flatMap λ_=>z.toList).length<=j:=by rw[flat_length (m:=5) (by intro x;simpa using hz)];simp;omega
 rw[ac7 h1,ac7 h2]
abbrev Ie (n:Nat):List acK:=(aaA n ()).flatMap λ_=>E9.toList
def AB (n:Nat):Ie (n+1)=E9.toList++Ie n:=by unfold Ie;rw[List.replicate_succ,List.flatMap_cons]
structure nD (w:acL)(k kb B P S i:Nat)(bs:List eG)(wr:acL):Prop where
 aW:aD wr k 144 #[vi B,vi P,vi S,aco (some ⟨kb,0,none⟩) B B,aco none 0 0,vi 0,acg false,vi 0,vi 0]
 WE:aD wr w.heap.size 103 #[vi B,vi P,vi S]
 blocks:kY wr 140 5 kb B B (bs.flatMap eG.cells++Ie (B-i))
 len:bs.length=i
 form:∀x∈bs,x=⟨x.g,P,aaA P ⟨none,[],0⟩,0,false,false,0⟩
 pages:∀x∈bs,kY wr 23 1 x.g x.ps.length x.c (x.ps.map (·.v))
 nodup:(bs.map (·.g)).Nodup
 low:w.heap.size<=k/\w.heap.size<=kb/\∀x∈bs,w.heap.size<=x.g
 below:acN w.heap.size w wr
variable{B P S:Nat}
def nD.next {wr:acL}{kb:Nat}{bs:List eG}(h:nD w k kb B P S i bs wr)(hi:i<B)(hP:P<=32) :
  nD w k kb B P S (i+1) (bs++[⟨wr.heap.size,P,aaA P ⟨none,[],0⟩,0,false,false,0⟩]) ((wr.setCell ⟨kb,i*5,none⟩ (aco (some ⟨wr.heap.size,0,none⟩) P P)).alloc (ach (madeCells #[aco none 0 0] P) 23)):=by
 have hkb:k≠kb:=λe=>by subst e;exact(h.blocks.dM h.aW ag) rfl
 have Fe:w.heap.size≠kb:=(h.blocks.dM h.WE ag).symm;have hx:∀x∈bs,x.g≠kb:=λx hx=>(h.pages x hx).ne h.blocks ag
 have hb:(bs.flatMap eG.cells).length=i*5:=by rw[flat_length eG.jq,h.len]
 have n0:=kY.lit (wr.setCell ⟨kb,i*5,none⟩ (aco (some ⟨wr.heap.size,0,none⟩) P P)) 23 1 P (madeCells #[aco none 0 0] P) (by unfold maxLen;omega) (by simp[madeCells]);rw[toList_madeCells_one,size_set]at n0;refine⟨(h.aW.far (p:=⟨kb,i*5,none⟩) hkb _).alloc _,(h.WE.far (p:=⟨kb,i*5,none⟩) Fe _).alloc _,?_,by simp[h.len],?_,?_,?_,⟨h.low.1,h.low.2.1,?_⟩,(h.below.setCell h.low.2.1 _).alloc (by rw[size_set];exact h.below.size) _⟩;have h1:=(h.blocks.set (i*5) (aco (some ⟨wr.heap.size,0,none⟩) P P)).old (ak.alloc aj (ach (madeCells #[aco none 0 0] P) 23))
 rw[show B-i=(B-(i+1))+1 by omega,AB,List.set_append_right _ _ aa,hb,Nat.sub_self]at h1;rw[List.flatMap_append,List.append_assoc];have e:([(⟨wr.heap.size,P,aaA P ⟨none,[],0⟩,0,false,false,0⟩:eG)].flatMap eG.cells)=[aco (some ⟨wr.heap.size,0,none⟩) P P,vi 0,acg false,acg false,vi 0]:=by simp[eG.cells]
 rw[e];exact h1;intro x hxm;rcases List.mem_append.1 hxm with hxm|hxm;exact h.form x hxm;rw[adf]at hxm;subst hxm;rfl;intro x hxm;rcases List.mem_append.1 hxm with hxm|hxm;exact((h.pages x hxm).far (p:=⟨kb,i*5,none⟩) (hx x hxm) _).old ax;rw[adf]at hxm;subst hxm;dsimp only;rw[abP,List.map_replicate];exact n0;rw[List.map_append];refine List.nodup_append.2 ⟨h.nodup,ai,?_⟩;intro a ha b hb' e;simp only[List.map_cons,List.map_nil,adf]at hb';obtain⟨x,hxm,rfl⟩:=aay.1 ha;have:=(h.pages x hxm).lt
 omega;intro x hxm;rcases List.mem_append.1 hxm with hxm|hxm;exact h.low.2.2 x hxm;rw[adf]at hxm;subst hxm;exact h.below.size
structure lq (aA:Nat)(w:acL)(k:Nat)(M:dA)(w':acL):Prop where
 at_:aT aA w' k M
 below:acN w.heap.size w w'
 own:∀n,M.foot k n->w.heap.size<=n
def nD.made {wr:acL}{kb:Nat}{bs:List eG}(h:nD w k kb B P S B bs wr)(hb:aA<=w.heap.size) :
  lq aA w k ⟨B,P,S,kb,B,bs,none,[],0,0,false,0,0⟩ wr/\(⟨B,P,S,kb,B,bs,none,[],0,0,false,0,0⟩:dA).view=NP.blank B P S:=by
 have hlow:∀n,(⟨B,P,S,kb,B,bs,none,[],0,0,false,0,0⟩:dA).foot k n->w.heap.size<=n:=by
  rintro n (rfl|rfl|hn);exact h.low.1;exact h.low.2.1;obtain⟨x,hx,rfl⟩:=aay.1 hn;exact h.low.2.2 x hx
 refine⟨⟨⟨?_,?_,h.pages,h.nodup,?_,uM.nil _ _ _,λn hn=>abX hb (hlow n hn)⟩,h.below,hlow⟩,?_⟩;have:=h.aW;simp only[dA.cs,h.len];exact this;have:=h.blocks;rw[Nat.sub_self]at this;dsimp only;rw[h.len];simpa[Ie] using this;intro x hx p hp;rw[h.form x hx]at hp;rw[(List.mem_replicate.1 hp).2];exact sD.ok.none _ _;simp only[dA.view,NP.blank,List.map_nil,NP.bX.mk.injEq,true_and,and_true];refine List.eq_replicate_iff.2 ⟨by rw[List.length_map,h.len],λy hy=>?_⟩;obtain⟨x,hx,rfl⟩:=aay.1 hy;rw[h.form x hx];simp[eG.view,NP.Ri]
def Ow (aA B P S:Nat)(w:acL)(hB:B<=128)(hP:P<=32)(hb:aA<=w.heap.size):ac4 prog 80 #[.agg #[vi B,vi P,vi S]] w λe w'=>∃k M,e=ab4 (ptr k)/\lq aA w k M w'/\M.view=NP.blank B P S:=by
 have hmk:=Ou B aa;have hB':=az hB;have g0:aD (w.alloc (ach #[vi B,vi P,vi S] 103)) w.heap.size 103 #[vi B,vi P,vi S]:=aD.new _ _ _;have HB:Hid (acN w.heap.size w (w.alloc (ach #[vi B,vi P,vi S] 103))):=az ax;have hz1:Hid ((w.alloc (ach #[vi B,vi P,vi S] 103)).heap.size=w.heap.size+1):=az (size_alloc _ _);go_in;go_wp2_with fail;generalize w.alloc (ach #[vi B,vi P,vi S] 103)=w1 at*;have c0:w1.cell? ⟨w.heap.size,0,none⟩=some (vi B):=g0.cell 0;have c1:w1.cell? ⟨w.heap.size,1,none⟩=some (vi P):=g0.cell 1;have c2:w1.cell? ⟨w.heap.size,2,none⟩=some (vi S):=g0.cell 2
 have hlt:w.heap.size<w1.heap.size:=by have:=hz1.o;omega
 have hn1:¬w1.heap.size=w.heap.size:=aa;have hn2:¬w.heap.size=w1.heap.size:=aa;go_region;have ST:Hid (nD w (w1.heap.size+1) w1.heap.size B P S 0 [] (((w1.alloc (ach (madeCells E9 (B*5)) 140)).alloc (ach #[vi B,vi P,vi S,aco (some ⟨w1.heap.size,0,none⟩) B B,aco none 0 0,vi 0,acg false,vi 0,vi 0] 144)).drew)):=az (by
  refine⟨?_,((g0.alloc _).alloc _),?_,rfl,ai,ai,ai,⟨aa,aa,ai⟩,((HB.o.alloc (Nat.le_of_lt hlt) _).alloc (by rw[size_alloc];omega) _).drew⟩
  have:=aD.new (w1.alloc (ach (madeCells E9 (B*5)) 140)) 144 #[vi B,vi P,vi S,aco (some ⟨w1.heap.size,0,none⟩) B B,aco none 0 0,vi 0,acg false,vi 0,vi 0]
  rw[size_alloc]at this
  exact this.drew
  have:=(kY.lit w1 140 5 B (madeCells E9 (B*5)) (by unfold maxLen;omega) (by simp[madeCells])).old (ak.alloc aj (ach #[vi B,vi P,vi S,aco (some ⟨w1.heap.size,0,none⟩) B B,aco none 0 0,vi 0,acg false,vi 0,vi 0] 144)).drew
  rw[Ov _ _ rfl]at this
  rw[List.flatMap_nil,List.nil_append,Nat.sub_zero]
  exact this)
 clear hmk g0 c0 c1 c2 hn1 hn2 hz1 HB;generalize ((w1.alloc (ach (madeCells E9 (B*5)) 140)).alloc (ach #[vi B,vi P,vi S,aco (some ⟨w1.heap.size,0,none⟩) B B,aco none 0 0,vi 0,acg false,vi 0,vi 0] 144)).drew=w3 at*;generalize w1.heap.size+1=k at*;generalize w1.heap.size=kb at*;have c3:w3.cell? ⟨k,3,none⟩=some (aco (some ⟨kb,0,none⟩) B B):=ST.o.aW.cell 3;go_wp2_with fail;clear c3;go_loopw [16] (λv wr=>∃(i:Nat) (bs:List eG),i<=B/\v=vi i/\Hid (nD w k kb B P S i bs wr)) (λv _=>B-(intOf v).toNat)
 case atStart=>exact⟨0,[],aaW _,rfl,ST⟩
 case round =>
  obtain⟨i,bs,hi,rfl,st⟩:=hrel;by_cases hlt2:i<B
  ·have c3:wr.cell? ⟨k,3,none⟩=some (aco (some ⟨kb,0,none⟩) B B):=st.o.aW.cell 3;have c1:wr.cell? ⟨w.heap.size,1,none⟩=some (vi P):=st.o.WE.cell 1;have hb5:(bs.flatMap eG.cells).length=i*5:=by rw[flat_length eG.jq,st.o.len]
   have c0:wr.cell? ⟨kb,i*5,none⟩=some (aco none 0 0):=by
    rw[st.o.blocks.cell aa,List.getElem?_append_right aa,hb5,Nat.sub_self,show B-i=(B-(i+1))+1 by omega,AB];rfl
   have z0:=st.o.blocks.frozen (i*5);have hkl:kb<wr.heap.size:=st.o.blocks.lt;have amm:¬wr.heap.size=kb:=aa;have amn:¬kb=wr.heap.size:=aa;have hgl:w.heap.size<wr.heap.size:=st.o.WE.lt;have hcl:k<wr.heap.size:=st.o.aW.lt;have hmk:=AA P aa;have q0:(0:Int)<=(i:Int):=aa;have q1:(i:Int)<(B:Int):=aa;have ST2:=az (st.o.next hlt2 hP);clear hb5 hlt;go_upto_region 5 with fail;go_region;have ST3:Hid (nD w k kb B P S (i+1) _ _):=az ⟨ST2.o.aW.drew,ST2.o.WE.drew,ST2.o.blocks.old au,ST2.o.len,ST2.o.form,λx hx=>(ST2.o.pages x hx).old au,ST2.o.nodup,ST2.o.low,ST2.o.below.drew⟩
   go_wp2;go_roundw
   case rel=>exact⟨i+1,_,aa,by go_num,ST3⟩
   case measure=>simp[intOf];omega
  obtain rfl:i=B:=aa;have hM:=st.o.made hb;have HM:=az hM;clear hM;go_wp2;go_ret;exact⟨_,_,rfl,HM.o.1,HM.o.2⟩
def lq.goes {wr:acL}(h:lq aA w k M wr)(g:Goes aA wr k M w' M'):lq aA w k M' w' :=
 ⟨g.at_,h.below.trans (g.aJ.dX (λn _ hn=>h.own n hn) h.below.size),λn hn=>by
  rcases g.foot n hn with h1|h1
  exact h.own n h1
  exact abX h.below.size h1⟩
def lq.more {w0 wr:acL}(h:lq aA w k M wr)(q:acN w0.heap.size w0 w):lq aA w0 k M wr :=
 ⟨h.at_,q.trans (h.below.mono q.size),λn hn=>abX q.size (h.own n hn)⟩
def lV (aA:Nat)(w:acL)(r:Option NP.bX)(e:Ending)(w':acL):Prop :=
 match r with
 |some V=>∃k M,e=ab4 (adg #[ptr k,vi 0])/\lq aA w k M w'/\M.view=V
 |none=>e=ab4 (adg #[adj none,vi 1])/\acN w.heap.size w w'
variable{r:Option NP.bX}
def lV.no (h:r=none)(hb:acN w.heap.size w w'):lV aA w r (ab4 (adg #[adj none,vi 1])) w':=by
 rw[h];exact⟨rfl,hb⟩
def lV.yes (h:r=some M.view)(hm:lq aA w k M w'):lV aA w r (ab4 (adg #[ptr k,vi 0])) w':=by
 rw[h];exact⟨k,M,rfl,hm,rfl⟩
def WG (aA:Nat)(b p s:Int)(a:Option acM)(bad:List Int)(c:Nat)(w:acL)(hr:jC w a bad)(hl:bad.length<=9223372036854775807)(hb:aA<=w.heap.size) :
  ac4 prog 49 #[.agg #[vi b,vi p,vi s],aco a bad.length c] w (lV aA w (NP.new b p s bad)):=by
 have HR:=az hr;have g0:=az (aD.new w 103 #[vi b,vi p,vi s]);have HB:Hid (acN w.heap.size w (w.alloc (ach #[vi b,vi p,vi s] 103))):=az ax;clear hr;go_in;go_wp2_with fail;generalize w.alloc (ach #[vi b,vi p,vi s] 103)=w0 at*;have c0:w0.cell? ⟨w.heap.size,0,none⟩=some (vi b):=g0.o.cell 0;have c1:w0.cell? ⟨w.heap.size,1,none⟩=some (vi p):=g0.o.cell 1;have c2:w0.cell? ⟨w.heap.size,2,none⟩=some (vi s):=g0.o.cell 2;refine(xq b p s _).mono ?_;rintro e w1 ⟨rfl,hb1⟩;have g1:=az (g0.o.old hb1);have HB1:=az (HB.o.trans (hb1.mono HB.o.size))
 clear c0 c1 c2 hb1 g0 HB;cases hrt:NP.bH b p s
 ·have HQ:=az (show NP.new b p s bad=none by rw[NP.new,if_neg (by rw[hrt];simp)]);clear hrt;go_wp2;go_ret2;exact lV.no HQ.o HB1.o
 have HQ:=az (show NP.new b p s bad=NP.badTo (NP.blank b.toNat p.toNat s.toNat) bad by rw[NP.new,if_pos hrt]);have adn:=hrt;simp only[NP.bH,ac8,decide_eq_true_eq,Bool.or_eq_true,beq_iff_eq]at adn;obtain⟨B,rfl⟩:∃B:Nat,b=B:=⟨b.toNat,aa⟩;obtain⟨P,rfl⟩:∃P:Nat,p=P:=⟨p.toNat,aa⟩;obtain⟨S,rfl⟩:∃S:Nat,s=S:=⟨s.toNat,aa⟩;rw[acW,acW,acW]at HQ;have hBB:B<=128:=aa;have hPP:P<=32:=aa;clear hrt adn;have c0:w1.cell? ⟨w.heap.size,0,none⟩=some (vi B):=g1.o.cell 0;have c1:w1.cell? ⟨w.heap.size,1,none⟩=some (vi P):=g1.o.cell 1
 have c2:w1.cell? ⟨w.heap.size,2,none⟩=some (vi S):=g1.o.cell 2;go_wp2_with fail;refine(Ow aA B P S _ hBB hPP (abX hb HB1.o.size)).mono ?_;rintro e w2 ⟨k,M,rfl,hm,hv⟩;have HM:=az hm;have Ig:Hid (M.bs.length=B/\M.B=B):=az (by
  have h1:M.view.bs.length=B:=by rw[hv];exact abP ..
  have h2:M.view.B=B:=by rw[hv];rfl
  exact⟨by simpa[dA.view] using h1,h2⟩)
 have HQ2:Hid (NP.new B P S bad=NP.badTo M.view (bad.drop 0)):=az (by rw[HQ.o,hv,List.drop_zero]);clear c0 c1 c2 hm hv HQ;go_wp2_with fail;go_loopw [16] (λv wr=>∃(i:Nat) (M:dA),i<=bad.length/\v=vi i/\Hid (lq aA w1 k M wr)/\Hid (M.bs.length=B/\M.B=B)/\Hid (NP.new B P S bad=NP.badTo M.view (bad.drop i))) (λv _=>bad.length-(intOf v).toNat)
 case atStart=>exact⟨0,M,aaW _,rfl,HM,Ig,HQ2⟩
 case round =>
  clear HM Ig HQ2 M;obtain⟨i,M,hi,rfl,HM,Ig,HQ⟩:=hrel;by_cases hlt:i<bad.length
  ·obtain⟨ba,o,rfl,hx⟩:=(HR.o.below (HB1.o.trans (HM.o.below.mono HB1.o.size))).lookup hlt;have hdr:bad.drop i=bad.getD i 0::bad.drop (i+1):=by
    rw[adb hlt,aah,aaj hlt];rfl
   have HDR:=az hdr;clear hdr;generalize bad.getD i 0=x at*;have c0:wr.cell? ⟨w.heap.size,0,none⟩=some (vi B):=(g1.o.below HM.o.below g1.o.lt).cell 0;by_cases hx0:0<=x
   ·by_cases hx1:x<B
    ·obtain⟨j,rfl⟩:∃j:Nat,x=j:=⟨x.toNat,aa⟩;have hj:j<M.bs.length:=by rw[Ig.o.1];omega
     have c3:wr.cell? ⟨k,3,none⟩=some (aco (some ⟨M.kb,0,none⟩) M.bs.length M.kc):=HM.o.at_.aW.cell 3;have d3:wr.cell? ⟨M.kb,j*5+3,none⟩=some (acg (M.bs.getD j default).bad):=HM.o.at_.iG hj (j:=3) ag;have z3:=HM.o.at_.blocks.frozen (j*5+3);have yC:Hid (lq aA w1 k (Ay M j) (wr.setCell ⟨M.kb,j*5+3,none⟩ (acg true))):=az (HM.o.goes (HM.o.at_.Ag hj (j:=3) ag (acg true) {M.bs.getD j default with bad:=true} rfl rfl rfl rfl));have HL2:Hid ((Ay M j).bs.length=B/\(Ay M j).B=B):=az ⟨by show (M.bs.set _ _).length=_;rw[abZ];exact Ig.o.1,Ig.o.2⟩
     have HQ2:Hid (NP.new B P S bad=NP.badTo (Ay M j).view (bad.drop (i+1))):=az (by
      rw[HQ.o,HDR.o,NP.badTo,if_pos ⟨aa,by show (j:Int)<(M.B:Int);rw[Ig.o.2];omega⟩,acW,Az hj])
     generalize (M.bs.getD j default).bad=bd at*;go_wp2;go_roundw
     case rel=>exact⟨i+1,_,aa,by go_num,yC,HL2,HQ2⟩
     case measure=>simp[intOf];omega
    have HF:Hid (NP.new B P S bad=none):=az (by rw[HQ.o,HDR.o,NP.badTo,if_neg (by show ¬(0<=x/\x<(M.B:Int));rw[Ig.o.2];omega)]);go_wp2;go_ret2;exact lV.no HF.o (HB1.o.trans (HM.o.below.mono HB1.o.size))
   have HF:Hid (NP.new B P S bad=none):=az (by rw[HQ.o,HDR.o,NP.badTo,if_neg aa]);go_wp2;go_ret2;exact lV.no HF.o (HB1.o.trans (HM.o.below.mono HB1.o.size))
  obtain rfl:i=bad.length:=aa;have HF:Hid (NP.new B P S bad=some M.view):=az (by rw[HQ.o,List.drop_length];rfl);go_wp2;go_ret2;exact lV.yes HF.o (HM.o.more HB1.o)
def Ox (M:dA)(j:Int)(hB:M.bs.length=M.B):vI M j=NP.bC M.view j:=by
 have hB':(M.view.B:Int)=M.bs.length:=by rw[hB];rfl
 unfold vI NP.bC;rw[hB'];by_cases h:0<=j/\j<M.bs.length;rw[if_pos h,if_pos h,kM aa];rfl;rw[if_neg h,if_neg h]
namespace mgr
open RowKit
variable{w':acL}{m:Nat}{G:iL}
def xC {g:Mg}{k:Int}(h:g.there k=true):∃i:Nat,k=i/\i<g.l.length/\(g.blk i).s≠4:=by
 unfold Mg.there at h;simp only[ac8,decide_eq_true_eq,bne_iff_ne,ne_eq]at h;exact⟨k.toNat,aa,aa,h.2⟩
def ow (aA:Nat)(w:acL)(m:Nat)(G:iL)(M:dA)(r:Int×NP.bX×Mg)(e:Ending)(w':acL):Prop :=
 ∃M',e=ab4 (vi r.1)/\bJ aA w m G M w' r.2.2 M'/\M'.view=r.2.1
def ow.mk {r:Int×NP.bX×Mg}{n:Int}{V:NP.bX}{g':Mg}(hr:r=(n,V,g'))(hg:bJ aA w m G M w' g' M')(hv:M'.view=V):ow aA w m G M r (ab4 (vi n)) w' :=
 ⟨M',by rw[hr],by rw[hr];exact hg,by rw[hr];exact hv⟩
def rq (h:Held aA w m G M)(hok:G.view.ok M.view)(ag7:M.P<=32)(k:Int):ac4 prog 109 #[ptr m,vi k] w λe w'=>e=ab4 (vi (G.view.drop k).1)/\bJ aA w m G M w' (G.view.drop k).2 M:=by
 have HT:=az (dP h k);cases ht:G.view.there k
 ·have HQ:Hid (G.view.drop k=(1,G.view)):=az (by unfold Mg.drop;rw[if_pos (ack ht)]);have H:=az h;rw[ht]at HT;clear ht h hok;go_in;go_wp2_with fail;refine HT.o.mono ?_;rintro e w' ⟨rfl,rfl⟩;go_wp2;go_ret;exact⟨bS (by rw[HQ.o]),by rw[HQ.o];exact bJ.refl H.o⟩
 obtain⟨i,rfl,hi,hs4⟩:=xC ht;obtain⟨c0,c1,c2,c3,c4,c5⟩:=h.cells;obtain⟨d0,d1,d2,d3⟩:=h.j3 hi;have hi0:(0:Int)<=(i:Int):=aa;have hi1:(i:Int)<(G.l.length:Int):=by
  have:i<G.l.length:=hi;omega
 have hr:=hok.QO _ (dG hi);have hP:M.view.P=M.P:=rfl;have dN:Hid (G.view.drop i=if G.view.there i=false\/(G.l.getD i default).l=0 then (1,G.view) else (0,G.view.put i {G.l.getD i default with l:=(G.l.getD i default).l-1,s:=if (G.l.getD i default).s=2/\(G.l.getD i default).l-1=0 then 3 else (G.l.getD i default).s})):=az (by
  unfold Mg.drop;simp only[acW])
 rw[ht]at HT dN;have H:=az h;by_cases hl:(G.l.getD i default).l=0
 ·have HQ:Hid (G.view.drop i=(1,G.view)):=az (by rw[dN.o,if_pos (acm hl)]);rw[hl]at d1;clear ht h hok hr hl d0 d2 d3 hs4 c0 c2 c3 c4 c5 hi dN;go_in;go_wp2_with fail;refine HT.o.mono ?_;rintro e w' ⟨rfl,rfl⟩;go_wp2;go_ret;exact⟨bS (by rw[HQ.o]),by rw[HQ.o];exact bJ.refl H.o⟩
 have HQ:Hid (G.view.drop i=(0,G.view.put i {G.l.getD i default with l:=(G.l.getD i default).l-1,s:=if (G.l.getD i default).s=2/\(G.l.getD i default).l-1=0 then 3 else (G.l.getD i default).s})):=az (by
  rw[dN.o,if_neg (by simpa using hl)])
 have hb:=ag7;have hlb:0<=(G.l.getD i default).l/\(G.l.getD i default).l<=32:=⟨hr.2.2.1,by have h1:(G.l.getD i default).l<=M.view.P:=hr.2.2.2.1;omega⟩;have h1:=h.cell hi (j:=1) ag (vi ((G.l.getD i default).l-1)) {G.l.getD i default with l:=(G.l.getD i default).l-1} rfl;have h2:=h1.trans (h1.at_.cell (i:=i) (j:=0) (by simpa[Mg.put] using hi) ag (vi 3) {G.l.getD i default with l:=(G.l.getD i default).l-1,s:=3} (by dsimp only[iL.lay,Mg.put,iL.view];rw[il _ _ _ _ hi,if_pos rfl];rfl));simp only[Mg.put,ac2,Nat.add_zero]at h1 h2;have H1:=az h1;have H2:=az h2
 have z0:=h.mgr.row.frozen (i*4);have z1:=h.mgr.row.frozen (i*4+1);clear h1 h2 dN ht h hok hr hs4 c0 c2 c3 c4 c5 hi d2 d3 hb;generalize hxl:(G.l.getD i default).l=xl at*;generalize hxs:(G.l.getD i default).s=xs at*;have q1:IntKind.i64.wrap (xl-1)=xl-1:=IntWalk.i64_in _ aa;have hl':(xl==0)=false:=beq_eq_false_iff_ne.2 hl;have hne:¬m=G.gl:=H.o.ne;clear hxl hxs;by_cases h2s:xs=2
 ·have hs':(xs==2)=true:=beq_iff_eq.2 h2s;by_cases h1l:xl-1=0
  ·have ag8:(xl-1==0)=true:=beq_iff_eq.2 h1l;rw[if_pos ⟨h2s,h1l⟩]at HQ;clear h2s h1l hl;go_in;go_wp2_with fail;refine HT.o.mono ?_;rintro e w' ⟨rfl,rfl⟩;go_wp2;go_ret;exact⟨bS (by rw[HQ.o]),by rw[HQ.o];exact H2.o⟩
  have ag8:(xl-1==0)=false:=beq_eq_false_iff_ne.2 h1l;rw[if_neg (by simp[h1l])]at HQ;clear h2s h1l hl;go_in;go_wp2_with fail;refine HT.o.mono ?_;rintro e w' ⟨rfl,rfl⟩;go_wp2;go_ret;exact⟨bS (by rw[HQ.o]),by rw[HQ.o];exact H1.o⟩
 have hs':(xs==2)=false:=beq_eq_false_iff_ne.2 h2s;rw[if_neg (by simp[h2s])]at HQ;clear h2s hl;go_in;go_wp2_with fail;refine HT.o.mono ?_;rintro e w' ⟨rfl,rfl⟩;go_wp2;go_ret;exact⟨bS (by rw[HQ.o]),by rw[HQ.o];exact H1.o⟩
def RZ (h:Held aA w m G M)(k:Int):ac4 prog 233 #[ptr m,vi k] w λe w'=>e=ab4 (vi (G.view.idle M.view k))/\w'=w:=by
 have HT:=az (dP h k);have HR:=az (ou h);have dN:Hid (G.view.idle M.view k=if M.down then 4 else if G.view.there k=false\/0<(G.l.getD k.toNat default).l then 1 else 0):=az rfl;cases hd:M.down
 ·rw[hd]at HR dN;rw[if_neg ag]at dN HR;cases ht:G.view.there k
  ·rw[ht]at HT;rw[if_pos (ack ht)]at dN;clear h ht hd;go_in;go_wp2_with fail;refine HR.o.mono ?_;rintro e w' ⟨rfl,rfl⟩;go_wp2_with fail;refine HT.o.mono ?_;rintro e w' ⟨rfl,rfl⟩;go_wp2;go_ret;exact⟨bS dN.o.symm,rfl⟩
  obtain⟨i,rfl,hi,hs4⟩:=xC ht;obtain⟨c0,c1,c2,c3,c4,c5⟩:=h.cells;obtain⟨d0,d1,d2,d3⟩:=h.j3 hi;have hi0:(0:Int)<=(i:Int):=aa;have hi1:(i:Int)<(G.l.length:Int):=by
   have:i<G.l.length:=hi;omega
  rw[ht]at HT dN;rw[acW]at dN;clear h ht hd c0 c2 c3 c4 c5 hs4 hi d0 d2 d3;generalize (G.l.getD i default).l=xl at*;by_cases hl:0<xl
  ·rw[if_pos (acm hl)]at dN;go_in;go_wp2_with fail;refine HR.o.mono ?_;rintro e w' ⟨rfl,rfl⟩;go_wp2_with fail;refine HT.o.mono ?_;rintro e w' ⟨rfl,rfl⟩;go_wp2;go_ret;exact⟨bS dN.o.symm,rfl⟩
  rw[if_neg (by simp[hl])]at dN;go_in;go_wp2_with fail;refine HR.o.mono ?_;rintro e w' ⟨rfl,rfl⟩;go_wp2_with fail;refine HT.o.mono ?_;rintro e w' ⟨rfl,rfl⟩;go_wp2;go_ret;exact⟨bS dN.o.symm,rfl⟩
 rw[hd]at HR dN;rw[if_pos rfl]at dN HR;clear h hd HT;go_in;go_wp2_with fail;refine HR.o.mono ?_;rintro e w' ⟨rfl,rfl⟩;go_wp2;go_ret;exact⟨bS dN.o.symm,rfl⟩
def Ff {gl o:Nat}{v0 v1 v2 v3:acK}{p:acM}(hp:gl≠p.block):((((w.setCell ⟨gl,o,none⟩ v0).setCell ⟨gl,o+1,none⟩ v1).setCell ⟨gl,o+2,none⟩ v2).setCell ⟨gl,o+3,none⟩ v3).cell? p=w.cell? p:=by
 have:∀o',(⟨gl,o',none⟩:acM)≠p:=λo' e=>hp (by rw[<-e]);rw[ac6 _ _ _ _ (this _),ac6 _ _ _ _ (this _),ac6 _ _ _ _ (this _),ac6 _ _ _ _ (this _)]
def uN (M:dA)(hok:M.view.ok)(j:Int):vI M j=NP.bC M.view j:=Ox M j (pE hok)
def R3 (h:Held aA w m G M)(hok:M.view.ok)(i:Nat)(hi:i<G.l.length):ac4 prog 234 #[ptr m,vi i] w (ow aA w m G M (G.view.gone M.view i)):=by
 obtain⟨c0,c1,c2,c3,c4,c5⟩:=h.cells;have HM:=az (RQ h.aW hok i);have dN:Hid (G.view.gone M.view i=if (NP.mark M.view i).1=0 then (0,(NP.mark M.view i).2,(G.view.put i ⟨4,0,NP.bC (NP.mark M.view i).2 i,0⟩).shut i) else ((NP.mark M.view i).1,(NP.mark M.view i).2,G.view)):=az rfl;have hact:=(NP.qP hok (faults_small h.aW.faults) (.mark i) trivial).1;change (NP.mark M.view i).2.ok at hact;have hPB:(NP.mark M.view i).2.P=M.view.P/\(NP.mark M.view i).2.B=M.view.B:=by
  unfold NP.mark;dsimp only;split;exact⟨rfl,rfl⟩;exact⟨rfl,rfl⟩
 have H:=az h;have hi0:(0:Int)<=(i:Int):=aa;have hi1:(i:Int)<(G.l.length:Int):=aa;have HI:=az hi;clear c1 c2 c3 c4 c5 h hok;generalize hr1:(NP.mark M.view i).1=r1 at*;generalize hr2:(NP.mark M.view i).2=V2 at*;have WH:=az hact;have yC:Hid (ac4 prog 87 #[ptr G.k,vi i] w λe w'=>∃M',e=ab4 (vi r1)/\Goes aA w G.k M w' M'/\M'.view=V2):=az (HM.o.mono (by
  rintro e w' ⟨M',he,hg,hv⟩
  exact⟨M',by rw[he,hr1],hg,by rw[hv,hr2]⟩))
 clear hr1 hr2 hact HM hPB;by_cases hz:r1=0
 ·rw[if_pos hz]at dN;have hzq:(r1 != 0)=false:=by simp[hz]
  go_in;go_wp2_with fail;refine yC.o.mono ?_;rintro e w1 ⟨M',rfl,hg,hv⟩;have qI:=az (H.o.jG hg);have HV:=az hv;have hws:vI M' i=NP.bC V2 i:=by rw[uN M' (by rw[hv];exact WH.o),hv]
  generalize NP.bC V2 i=wr at*;have HW:=az (λw' (hc:aT aA w' G.k M')=>Aw hc i);rw[hws]at HW;have k0:w1.cell? ⟨m,0,none⟩=some (ptr G.k):=qI.o.at_.cells.1;have k1:w1.cell? ⟨m,1,none⟩=some (aco (some ⟨G.gl,0,none⟩) G.l.length G.cl):=qI.o.at_.cells.2.1;have k2:w1.cell? ⟨m,2,none⟩=some (vi G.at_):=qI.o.at_.cells.2.2.1;have z2:=qI.o.at_.mgr.mgr.frozen 2;have z:=λj=>qI.o.at_.mgr.row.frozen j
  obtain⟨d0,d1,d2,d3⟩:=qI.o.at_.j3 HI.o;clear hg hv hws c0;have zz0:=z (i*4);have zz1:=z (i*4+1);have zz2:=z (i*4+2);have zz3:=z (i*4+3);have hne:Hid (G.gl≠m):=az (λe=>H.o.ne e.symm);have hne1:¬G.gl=m:=hne.o;have HS:Hid (w1.drew.cell? ⟨m,0,none⟩=some (ptr G.k)/\w1.drew.cell? ⟨m,1,none⟩=some (aco (some ⟨G.gl,0,none⟩) G.l.length G.cl)):=az ⟨k0,k1⟩;have V4:=az (HW.o _ (qI.o.at_.aW.old au));have uO:=az ((qI.o.old au).trans ((qI.o.old au).at_.block (i:=i) HI.o ⟨4,0,wr,0⟩));clear z HW;go_upto_region 4 with fail;go_region_held3 (λw'=>w'.cell? ⟨m,0,none⟩=some (ptr G.k)/\w'.cell? ⟨m,1,none⟩=some (aco (some ⟨G.gl,0,none⟩) G.l.length G.cl))
   (first
    |exact HS.o
    |exact⟨(Ff hne.o).trans HS.o.1,(Ff hne.o).trans HS.o.2⟩)
   (first|(go_at_call 123;refine V4.o.mono ?_;rintro e w' ⟨rfl,rfl⟩))
  change Hid (bJ aA w m G M ((((w1.setCell ⟨G.gl,i*4,none⟩ (vi 4)).setCell ⟨G.gl,i*4+1,none⟩ (vi 0)).setCell ⟨G.gl,i*4+2,none⟩ (vi wr)).setCell ⟨G.gl,i*4+3,none⟩ (vi 0)).drew (G.view.put i ⟨4,0,wr,0⟩) M') at uO;change Exit.then _ _ _ _ ((((w1.setCell ⟨G.gl,i*4,none⟩ (vi 4)).setCell ⟨G.gl,i*4+1,none⟩ (vi 0)).setCell ⟨G.gl,i*4+2,none⟩ (vi wr)).setCell ⟨G.gl,i*4+3,none⟩ (vi 0)).drew;clear k0 k1 k2 z2 d0 d1 d2 d3 zz0 zz1 zz2 zz3 HS V4 qI;generalize ((((w1.setCell ⟨G.gl,i*4,none⟩ (vi 4)).setCell ⟨G.gl,i*4+1,none⟩ (vi 0)).setCell ⟨G.gl,i*4+2,none⟩ (vi wr)).setCell ⟨G.gl,i*4+3,none⟩ (vi 0)).drew=w2 at*
  have k2:w2.cell? ⟨m,2,none⟩=some (vi G.at_):=uO.o.at_.cells.2.2.1;have z2:=uO.o.at_.mgr.mgr.frozen 2;by_cases ha:(i:Int)=G.at_
  ·have hq:((i:Int)==G.at_)=true:=beq_iff_eq.2 ha;have HE:=az (uO.o.shut (i:=i) ha);clear ha;go_wp2;go_ret;exact ow.mk dN.o HE.o HV.o
  have hq:((i:Int)==G.at_)=false:=beq_eq_false_iff_ne.2 ha;have HE:=az (uO.o.EU (i:=i) ha);clear ha;go_wp2;go_ret;exact ow.mk dN.o HE.o HV.o
 rw[if_neg hz]at dN;have hzq:(r1 != 0)=true:=by simp[hz]
 go_in;go_wp2_with fail;refine yC.o.mono ?_;rintro e w1 ⟨M',rfl,hg,hv⟩;have qI:=az (H.o.jG hg);have HV:=az hv;clear hg hv;go_wp2;go_ret;exact ow.mk dN.o qI.o HV.o
end mgr
def jH {ops:Array Oper}{o:Oper}{a:Act}{K:Act->acL->Prop}{Q:Exit->Act->acL->Prop}{E:Prop}(s x:Operand){t u:TypeId}{v src v':acK}
  (hrun:eH t u o.type v src w v' w') (hgd:o.guard=none) (ho:o.op=.call {callee:=.builtin .append,args:=#[s,x],argTypes:=#[t,u]}) (hs:a.eval s=v) (hx:a.eval x=src) (h:K (a.put o.dst v') w'):if Region.wanted o (yielded ops a.tmps)=true then Oper.wp prog o a w K Q else E :=
 qf hgd s x ho hs hx hrun.run h
def xD (w:acL)(g j:Nat)(u:acK):w.grownBy (w.setCell ⟨g,j,none⟩ u) (some g):=⟨rfl,rfl,rfl,by simp[acL.setCell],λk _ hne=>acN.heap_setCell w _ u k (λe=>hne (by rw[e]))⟩
namespace mgr
open RowKit
def R8:(prog.info? 193).map (λi=>(i.zero,i.size,i.bytes))=some (some (.agg #[vi 0,vi 0,vi 0,vi 0]),4,32):=ah
def Kg (a:Option acM)(n c:Nat)(xs:List acK)(w:acL)(hx:xs.length=n*4)(hc:∀ad,a=some ad->∀j u,xs[j]?=some u->w.cell? (ad.add j)=some u)(h1:∀u∈xs,u.oneCell'=true)(hz:a=none->n=0)(hn:n<=100000) :
  ac4 prog 199 #[.slice a n c] w λe w'=>∃v',e=.returned v'/\w'.ownsRow w.heap.size 193 4 v' n xs/\acN w.heap.size w w':=by
 have hen:=λ(w:acL) (a:Option acM) (n c:Nat)=>Lib.run_eql_slice_nil (P:=prog) w 189 193 a n c 0 0 underlying189;cases a with
 |none =>
  have h0:=hz rfl;subst h0;have hx0:xs=[]:=List.eq_nil_of_length_eq_zero aa;subst hx0;clear hx hc h1 hz hn;go_in;go_wp2;go_ret;exact⟨_,rfl,acL.ownsRow_nil _ _ _ _,ak⟩
 |some ad =>
  obtain⟨i0,hi,hz0,hz1,hz2⟩:=info_parts R8;have hown:(w.alloc (.cells #[] 193)).ownsRow w.heap.size 193 4 (.slice (some ⟨w.heap.size,0,none⟩) 0 0) 0 []:=acL.ownsRow_lit w #[] 0 aj (aaW _) rfl;have hb:=(acN.refl w.heap.size w).alloc aj (.cells #[] 193);obtain⟨v',w',hrun,ho,hg,_⟩:=run_append_own_at (P:=prog) (w.alloc (.cells #[] 193)) w.heap.size 189 189 193 i0 _ 4 32 underlying189 hi hz0 hz1 hz2 rfl aa _ 0 [] hown
   ad n c xs aa (λj u hu=>cell_below (hc ad rfl j u hu) hb) h1 (by unfold maxLen;omega) aa ai
  have R:eH 189 189 189 (.slice (some ⟨w.heap.size,0,none⟩) 0 0) (.slice (some ad) n c) (w.alloc (.cells #[] 193)) v' w':=⟨hrun⟩;have HB:=az (hb.grown hg ai (λk hk=>(hown.lt k hk).1));rw[Nat.zero_add,List.nil_append]at ho;have HO:=az ho;clear hrun ho hg hown hi hz0 hz1 hz2 hx hc h1 hz hb;go_in;go_wp2_with (at_builtin;refine wpList_append_run rfl (.tmp 5) (.tmp 6) rfl rfl rfl R.run ?_);go_ret;exact⟨_,rfl,HO.o,HB.o⟩
end mgr
def AJ (w:acL)(a:Option acM)(l:List Bool):Prop:=l=[]\/∃b o,a=some ⟨b,o,none⟩/\∀i,i<l.length->w.cell? ⟨b,o+i,none⟩=some (acg (l.getD i false))
def AJ.lookup {l:List Bool}(h:AJ w a l)(hi:i<l.length):∃b o,a=some ⟨b,o,none⟩/\w.cell? ⟨b,o+i,none⟩=some (acg (l.getD i false)):=by
 rcases h with rfl|⟨b,o,rfl,h⟩;simp at hi;exact⟨b,o,rfl,h i hi⟩
def AJ.old {l:List Bool}(h:AJ w a l)(q:acN w.heap.size w w'):AJ w' a l:=by
 rcases h with h|⟨b,o,rfl,h⟩;exact ack h;exact acm ⟨b,o,rfl,λi hi=>cell_below (h i hi) q⟩
def mgr.jI:(prog.info? 3).map (λi=>(i.zero,i.size,i.bytes))=some (some (vi 0),1,8):=ah
def mgr.Oy (n:Nat)(hn:n<=1000000)(w:acL):(Instr.makeSlice 31 (.int .i64 (n:Int)) (.int .i64 (n:Int))).run prog w=.ok (.slice (some ⟨w.heap.size,0,none⟩) n n) (w.alloc (.cells (madeCells #[vi 0] n) 3)) :=
 run_make_row' 31 3 (vi 0) 8 underlying31 mgr.jI rfl .i64 .i64 n aa aa w
def D7 (w:acL)(cs:Array acK)(t:TypeId):acN w.heap.size w (w.alloc (ach cs t)):=ax
def AL (M:dA)(j:Int)(hB:M.bs.length=M.B):Kc M j=NP.qO M.view j:=by
 have hB':(M.view.B:Int)=M.bs.length:=by rw[hB];rfl
 unfold Kc NP.qO;rw[hB'];by_cases h:0<=j/\j<M.bs.length;rw[if_pos h,if_pos h,kM aa];rfl;rw[if_neg h,if_neg h]
namespace mgr
open RowKit
def firstB (c:NP.bX)(f:Bool)(n:Int)(k:Nat):gcs.aD :=
 if NP.qO c k then ⟨4,0,NP.bC c k,0⟩ else if f then ⟨0,0,NP.bC c k,0⟩ else if 0<n then ⟨2,n,NP.bC c k,0⟩ else ⟨3,0,NP.bC c k,0⟩
def lu (P:Int)(f:Bool)(n:Int):Bool:=decide (n<0)||decide (P<n)||(f&&decide (0<n))
def firstL (c:NP.bX)(fresh:List Bool)(live:List Int)(n:Nat):List gcs.aD:=(ac9 n).map λk=>firstB c (fresh.getD k false) (live.getD k 0) k
def uq (l:List gcs.aD):Bool:=decide (4<wrap64 (gcs.l9 l-gcs.eP l))
def jX (c:NP.bX)(fresh:List Bool)(live:List Int)(aC bad:Int):Int×Option Mg :=
 if c.down then (4,none)
 else if fresh.length≠c.B\/live.length≠c.B\/aC<0\/bad<0 then (1,none)
 else if (ac9 c.B).all (λk=> !lu c.P (fresh.getD k false) (live.getD k 0)) then (0,some ⟨firstL c fresh live c.B,-1,aC,bad,uq (firstL c fresh live c.B)⟩)
 else (1,none)
def firstL_length (c:NP.bX)(fresh:List Bool)(live:List Int)(n:Nat):(firstL c fresh live n).length=n:=by simp[firstL]
def firstL_succ (c:NP.bX)(fresh:List Bool)(live:List Int)(n:Nat):firstL c fresh live (n+1)=firstL c fresh live n++[firstB c (fresh.getD n false) (live.getD n 0) n]:=by
 simp[firstL,List.range_succ]
def AO (f:Nat->Bool)(n:Nat):(ac9 (n+1)).all f=((ac9 n).all f&&f n):=by
 simp[List.range_succ]
def Di {f:Nat->Bool}{n:Nat}(h:n<B)(hf:f n=false):(ac9 B).all f=false:=by
 rw[List.all_eq_false];exact⟨n,List.mem_range.2 h,by simp[hf]⟩
def Ih {c:NP.bX}{fresh:List Bool}{live:List Int}{aC bad:Int}{e:Int}{g:Mg}(h:jX c fresh live aC bad=(e,some g)):g.ok c/\e=0/\g.at_= -1:=by
 unfold jX at h;split at h;simp at h;split at h;simp at h;split at h;rename_i h1 h2 h3;injection h with h4 h5;injection h5 with h5;subst h5;have hw:∀k,k<c.B->lu c.P (fresh.getD k false) (live.getD k 0)=false:=by
  intro k hk;have:=List.all_eq_true.1 h3 k (List.mem_range.2 hk);simpa using this
 have hP:(0:Int)<=c.P:=aa;have hx:∀x∈firstL c fresh live c.B,∃k,k<c.B/\x=firstB c (fresh.getD k false) (live.getD k 0) k:=by
  intro x hx;obtain⟨k,hk,rfl⟩:=aay.1 hx;exact⟨k,List.mem_range.1 hk,rfl⟩
 have hr:∀x∈firstL c fresh live c.B,0<=x.s/\x.s<=4/\0<=x.l/\x.l<=c.P/\x.n=0/\x.s≠1/\(x.s≠2->x.l=0):=by
  intro x hx';obtain⟨k,hk,rfl⟩:=hx x hx';have:=hw k hk;unfold lu at this;simp only[Bool.or_eq_false_iff,decide_eq_false_iff_not]at this;unfold firstB
  generalize live.getD k 0=n at*;split;dsimp only;omega;split;dsimp only;omega;split;dsimp only;omega;dsimp only;omega
 refine⟨⟨firstL_length _ _ _ _,?_,?_,?_,ack rfl,?_⟩,h4.symm,rfl⟩;intro x hx';have:=hr x hx';omega;intro x hx' a b;exact(hr x hx').2.2.2.2.2.2 b;intro x hx' a;exact absurd a (hr x hx').2.2.2.2.2.1;intro i hi hs;exact absurd hs (hr _ (dG hi)).2.2.2.2.2.1;simp at h
def Kh:(prog.info? 193).map (λi=>(i.zero,i.size,i.bytes))=some (some (.agg #[vi 0,vi 0,vi 0,vi 0]),4,32):=ah
def uP (w:acL)(b0:Nat)(v:acK)(l:List gcs.aD):Prop:=w.ownsRow b0 193 4 v l.length (l.flatMap gQ)
section
variable{w':acL}{b0:Nat}{v:acK}{l:List gcs.aD}
def uP.grown (h:uP w b0 v l){row:Option Nat}(q:w.grownBy w' row)(hne:v.ownBlock=none\/v.ownBlock≠row):uP w' b0 v l:=acL.ownsRow.kept h q hne
def uP.old (h:uP w b0 v l)(hb:acN w.heap.size w w'):uP w' b0 v l :=
 h.grown (row:=none) ⟨hb.os,hb.tape,hb.output,hb.size,λk hk _=>hb.block k hk⟩ (by cases hv:v.ownBlock<;>simp)
def uP.form (h:uP w b0 v l):∃a c,v=aco a l.length c:=by
 rcases h.2 with⟨rfl,h0⟩|⟨g,cap,cur,rfl,_⟩;exact⟨none,0,by rw[h0]⟩;exact⟨_,_,rfl⟩
def uP.row (h:uP w b0 v l):∀b,v.ownBlock=some b->b0<=b/\∃cur,aD w b 193 cur:=by
 intro b hb;rcases h.2 with⟨rfl,_⟩|⟨g,cap,cur,rfl,hg,hh,_⟩;simp[acK.ownBlock]at hb;simp[acK.ownBlock]at hb;subst hb;exact⟨hg,cur,hh⟩
def Fg (hown:uP w b0 v l)(x:gcs.aD)(hn:l.length+1<=1000000)(hb:b0<=w.heap.size) :
  ∃v' w',eH 189 189 189 v (.slice (some ⟨w.heap.size,0,none⟩) 1 1) (w.alloc (.cells #[vi x.s,vi x.l,vi x.r,vi x.n] 193)) v' w'/\uP w' b0 v' (l++[x])/\(w.alloc (.cells #[vi x.s,vi x.l,vi x.r,vi x.n] 193)).grownBy w' v.ownBlock:=by
 obtain⟨i0,hi,hz0,hz1,hz2⟩:=info_parts Kh;have hown':=hown.old ((acN.refl _ w).alloc aj (.cells #[vi x.s,vi x.l,vi x.r,vi x.n] 193));obtain⟨v',w',h1,h2,h3,_⟩:=run_append_own_at (P:=prog) (w.alloc (.cells #[vi x.s,vi x.l,vi x.r,vi x.n] 193)) b0 189 189 193 i0 _ 4 32 underlying189 hi hz0 hz1 hz2 rfl aa v l.length (l.flatMap gQ) hown'
  ⟨w.heap.size,0,none⟩ 1 1 (gQ x) rfl (λj u hu=>by
   rw[add_plain,Nat.zero_add,(aD.new w 193 #[vi x.s,vi x.l,vi x.r,vi x.n]).cell]
   simpa[gQ] using hu) (by intro u hu;simp[gQ]at hu;rcases hu with rfl|rfl|rfl|rfl<;>rfl)
   (by unfold maxLen;omega) aa (by simp;omega)
 refine⟨v',w',⟨h1⟩,?_,h3⟩;unfold uP;rw[List.length_append,List.flatMap_append];simpa using h2
end
structure OpenSt (w:acL)(k m:Nat)(aC bad:Int)(l:List gcs.aD)(v:acK)(wr:acL):Prop where
 below:acN w.heap.size w wr
 mgr:aD wr m 191 #[ptr k,v,vi (-1),vi aC,vi bad,acg false]
 own:uP wr w.heap.size v l
 low:w.heap.size<=m
section
variable{wr w':acL}{m:Nat}{aC bad:Int}{l:List gcs.aD}{v:acK}
def OpenSt.old (h:OpenSt w k m aC bad l v wr)(q:acN wr.heap.size wr w'):OpenSt w k m aC bad l v w':=⟨h.below.trans (q.mono h.below.size),h.mgr.old q,h.own.old q,h.low⟩
def OpenSt.var (h:OpenSt w k m aC bad l v wr){g j:Nat}(hw:w.heap.size<=g)(ho:v.ownBlock≠some g)(hk:g≠m)(u:acK):OpenSt w k m aC bad l v (wr.setCell ⟨g,j,none⟩ u) :=
 ⟨h.below.setCell (p:=⟨g,j,none⟩) hw u,h.mgr.far (p:=⟨g,j,none⟩) hk.symm u,h.own.grown (row:=some g) (xD wr g j u) (acm ho),h.low⟩
def OpenSt.next (h:OpenSt w k m aC bad l v wr){w5:acL}{v':acK}{x:gcs.aD}(ho:uP w5 w.heap.size v' (l++[x]))(hgr:(wr.alloc (ach #[vi x.s,vi x.l,vi x.r,vi x.n] 193)).grownBy w5 v.ownBlock) :
  OpenSt w k m aC bad (l++[x]) v' (w5.setCell ⟨m,1,none⟩ v'):=by
 have hoa:=h.own.old ((acN.refl _ wr).alloc aj (ach #[vi x.s,vi x.l,vi x.r,vi x.n] 193));have JR:aD w5 m 191 _:=(h.mgr.alloc (ach #[vi x.s,vi x.l,vi x.r,vi x.n] 193)).grown hgr (bU hoa (h.mgr.alloc _) ag);have hk5:some m≠v'.ownBlock:=bU ho JR ag;refine⟨?_,JR.bB 1 v',ho.grown (row:=some m) (xD w5 m 1 v') (acm (λe=>hk5 e.symm)),h.low⟩;exact((h.below.alloc h.below.size _).grown hgr (h.below.alloc h.below.size _).size (λb e=>(hoa.row b e).1)).setCell (p:=⟨m,1,none⟩) h.low _
end
def oz (aA:Nat)(w:acL)(k:Nat)(M:dA)(r:Int×Option Mg)(e:Ending)(w':acL):Prop :=
 acN w.heap.size w w'/\match r with
 |(n,none)=>e=ab4 (adg #[(adj none:acK),vi n])
 |(n,some g)=>∃m G,e=ab4 (adg #[ptr m,vi n])/\Held aA w' m G M/\G.k=k/\G.view=g/\∀n,G.foot m n->w.heap.size<=n
def oz.no {r:Int×Option Mg}{n:Int}(hr:r=(n,none))(hb:acN w.heap.size w w'):oz aA w k M r (ab4 (adg #[(adj none:acK),vi n])) w':=by
 subst hr;exact⟨hb,rfl⟩
def AQ (h:aT aA w k M)(hok:M.view.ok)(hbase:aA<=w.heap.size)(fa:Option acM)(fresh:List Bool)(fc:Nat)(hf:AJ w fa fresh)(la:Option acM)(live:List Int)(lc:Nat)(hl:jC w la live)(aC bad:Int) :
  ac4 prog 88 #[ptr k,aco fa fresh.length fc,aco la live.length lc,vi aC,vi bad] w (oz aA w k M (jX M.view fresh live aC bad)):=by
 have dN:Hid (jX M.view fresh live aC bad=if M.down then (4,none)
  else if fresh.length≠M.B\/live.length≠M.B\/aC<0\/bad<0 then (1,none)
  else if (ac9 M.B).all (λk=> !lu M.P (fresh.getD k false) (live.getD k 0)) then (0,some ⟨firstL M.view fresh live M.B,-1,aC,bad,uq (firstL M.view fresh live M.B)⟩)
  else (1,none)):=az rfl
 have HU:=az (ET h);have HC:=az h;have vM:=az hok;have HF:=az hf;have HL:=az hl;have hSz:=EY hok;have lK:=az (pE hok);have hB:Hid (8<=M.B/\M.B<=128/\M.P<=32):=az (by
  have:NP.bH M.B M.P M.S=true:=hok.right
  unfold NP.bH at this
  simp only[ac8,decide_eq_true_eq]at this
  omega)
 clear h hok hf hl hSz;by_cases hd:M.down=true
 ·rw[hd]at HU;rw[hd,if_pos rfl]at dN;go_in;go_wp2_with fail;refine HU.o.mono ?_;rintro e w' ⟨rfl,rfl⟩;go_wp2;go_ret2;exact oz.no dN.o ak
 have hd':M.down=false:=by simpa using hd
 rw[hd',if_neg ag]at dN;rw[hd']at HU;clear hd hd';by_cases hbad:fresh.length≠M.B\/live.length≠M.B\/aC<0\/bad<0
 ·rw[if_pos hbad]at dN;have hp:((fresh.length:Int) != (M.B:Int))=true\/(((fresh.length:Int) != (M.B:Int))=false/\((live.length:Int) != (M.B:Int))=true)\/(((fresh.length:Int) != (M.B:Int))=false/\((live.length:Int) != (M.B:Int))=false/\aC<0)\/(((fresh.length:Int) != (M.B:Int))=false/\((live.length:Int) != (M.B:Int))=false/\¬aC<0/\bad<0):=by
   by_cases h1:fresh.length=M.B;have e1:((fresh.length:Int) != (M.B:Int))=false:=by rw[h1];simp
   by_cases h2:live.length=M.B;have e2:((live.length:Int) != (M.B:Int))=false:=by rw[h2];simp
   by_cases h3:aC<0;exact acm (acm (ack ⟨e1,e2,h3⟩));exact acm (acm (acm ⟨e1,e2,h3,aa⟩));exact acm (ack ⟨e1,by simp only[bne_iff_ne,ne_eq];omega⟩);exact ack (by simp only[bne_iff_ne,ne_eq];omega)
  have AR:=az hp;clear hbad hp;go_in;go_wp2_with fail;refine HU.o.mono ?_;rintro e w' ⟨rfl,rfl⟩;go_wp2_with fail;refine(iZ HC.o).mono ?_;rintro e w1 ⟨rfl,hb1⟩;have HB1:=az hb1;clear hb1;go_upto_region 6 with fail;have G0:=az (aD.new w1 103 #[vi M.B,vi M.P,vi M.S]);have HB2:=az (HB1.o.alloc HB1.o.size (ach #[vi M.B,vi M.P,vi M.S] 103));generalize w1.alloc (ach #[vi M.B,vi M.P,vi M.S] 103)=w2 at*;generalize w1.heap.size=gb at*;have c0:w2.cell? ⟨gb,0,none⟩=some (vi M.B):=G0.o.cell 0;rcases AR.o with e1|⟨e1,e2⟩|⟨e1,e2,e3⟩|⟨e1,e2,e3,e4⟩;all_goals
   go_wp2;go_ret2;exact oz.no dN.o HB2.o
 rw[if_neg hbad]at dN;have h1:fresh.length=M.B:=aa;have h2:live.length=M.B:=aa;have h3:¬aC<0:=aa;have h4:¬bad<0:=aa;have H1:=az h1;have H2:=az h2;have q1:((fresh.length:Int) != (M.B:Int))=false:=by rw[h1];simp
 have q2:((live.length:Int) != (M.B:Int))=false:=by rw[h2];simp
 clear hbad h1 h2;go_in;go_wp2_with fail;refine HU.o.mono ?_;rintro e w' ⟨rfl,rfl⟩;go_wp2_with fail;refine(iZ HC.o).mono ?_;rintro e w1 ⟨rfl,hb1⟩;have HB1:=az hb1;clear hb1;go_upto_region 6 with fail;have G0:=az (aD.new w1 103 #[vi M.B,vi M.P,vi M.S]);have HB2:=az (HB1.o.alloc HB1.o.size (ach #[vi M.B,vi M.P,vi M.S] 103));generalize w1.alloc (ach #[vi M.B,vi M.P,vi M.S] 103)=w2 at*;generalize w1.heap.size=gb at*;have c0:w2.cell? ⟨gb,0,none⟩=some (vi M.B):=G0.o.cell 0;go_upto_region 9 with fail;have G1:=az (G0.o.alloc (ach #[ptr k,aco none 0 0,vi (-1),vi aC,vi bad,acg false] 191))
 have ST:Hid (OpenSt w' k w2.heap.size aC bad (firstL M.view fresh live 0) (aco none 0 0) (w2.alloc (ach #[ptr k,aco none 0 0,vi (-1),vi aC,vi bad,acg false] 191))):=az
  ⟨HB2.o.alloc HB2.o.size _,aD.new _ _ _,acL.ownsRow_nil _ _ _ _,HB2.o.size⟩
 clear c0 q1 q2 h3 h4 G0 HB1 HB2;generalize w2.alloc (ach #[ptr k,aco none 0 0,vi (-1),vi aC,vi bad,acg false] 191)=w3 at*;generalize w2.heap.size=m at*;go_wp2_with fail;go_loopw [53] (λi wr=>∃(n:Nat) (v:acK),n<=live.length/\i=vi n/\Hid (OpenSt w' k m aC bad (firstL M.view fresh live n) v wr)/\Hid ((ac9 n).all (λk=> !lu M.P (fresh.getD k false) (live.getD k 0))=true)/\Hid (aD wr gb 103 #[vi M.B,vi M.P,vi M.S])) (λi _=>live.length-(intOf i).toNat)
 case atStart=>exact⟨0,_,aaW _,rfl,ST,az rfl,G1⟩
 case round =>
  clear ST G1;obtain⟨n,v,hn1,rfl,st,hall,hg⟩:=hrel;by_cases hlt:n<live.length
  ·obtain⟨lb,lo,rfl,hlc⟩:=(HL.o.below st.o.below).lookup hlt;obtain⟨fb,fo,rfl,hfc⟩:=(HF.o.old st.o.below).lookup (i:=n) (by rw[H1.o,<-H2.o];exact hlt);have hgp:wr.cell? ⟨gb,1,none⟩=some (vi M.P):=hg.o.cell 1;have q3:(0:Int)<=(n:Int):=aa;have q4:(n:Int)<(fresh.length:Int):=by rw[H1.o,<-H2.o];omega
   have QS:Hid (lu M.P (fresh.getD n false) (live.getD n 0)=true->jX M.view fresh live aC bad=(1,none)):=az (λhw=>by
    rw[dN.o,if_neg]
    have:=Di (f:=λk=> !lu M.P (fresh.getD k false) (live.getD k 0)) (n:=n) (B:=M.B) (by rw[<-H2.o];exact hlt) (by simp only[hw];rfl)
    rw[this];decide)
   have iH:Hid (lu M.P (fresh.getD n false) (live.getD n 0)=false->(ac9 (n+1)).all (λk=> !lu M.P (fresh.getD k false) (live.getD k 0))=true):=az (λhw=>by
    rw[AO,hall.o];simp only[hw];rfl)
   have QR:=az (firstL_succ M.view fresh live n);have MJ:Hid (lu M.P (fresh.getD n false) (live.getD n 0)=(decide ((live.getD n 0)<0)||decide ((M.P:Int)<(live.getD n 0))||((fresh.getD n false)&&decide (0<(live.getD n 0))))):=az rfl;generalize live.getD n 0=x at*;generalize fresh.getD n false=f at*;generalize firstL M.view fresh live n=l at*
   by_cases hw:lu M.P f x=true
   ·have HQ:=az (QS.o hw);rw[MJ.o]at hw;have hp:x<0\/(¬x<0/\(M.P:Int)<x)\/(¬x<0/\¬(M.P:Int)<x/\f=true/\0<x):=by
     simp only[Bool.or_eq_true,ac8,decide_eq_true_eq]at hw;rcases hw with (hw|hw)|hw;exact ack hw;by_cases e:x<0;exact ack e;exact acm (ack ⟨e,hw⟩);by_cases e:x<0;exact ack e;by_cases e2:(M.P:Int)<x;exact acm (ack ⟨e,e2⟩);exact acm (acm ⟨e,e2,hw⟩)
    have HB:=az st.o.below;clear hw QS iH QR MJ hall hg st;rcases hp with e|⟨e,e2⟩|⟨e,e2,rfl,e4⟩;all_goals
     go_wp2;go_ret2;exact oz.no HQ.o HB.o
   have hw':lu M.P f x=false:=by simpa using hw
   have zq:=az (iH.o hw');rw[MJ.o]at hw';simp only[Bool.or_eq_false_iff,Bool.and_eq_false_iff,decide_eq_false_iff_not]at hw';obtain⟨⟨e1,e2⟩,e3⟩:=hw';have E3:=az e3;clear hw QS iH MJ hall e3;go_upto_region 12 with fail;go_cut [75] from 54 to 107 (λv wx=>v=acg false/\wx=wr)
   case first =>
    rcases E3.o with rfl|e3
    ·go_wp2;go_meet;exact⟨rfl,rfl⟩
    have e4:decide (0<x)=false:=decide_eq_false e3;cases f
    ·go_wp2;go_meet;exact⟨rfl,rfl⟩
    go_wp2;go_meet;exact⟨rfl,rfl⟩
   case rest =>
   obtain⟨rfl,rfl⟩:=hcut;have yx:=az (HC.o.old st.o.below);have HWV:Hid (vI M n=NP.bC M.view n):=az (uN M vM.o n);have HBV:Hid (Kc M n=NP.qO M.view n):=az (AL M n lK.o);have HWE:=az (λw' (hc:aT aA w' k M)=>Aw hc n);have Ii:=az (λw' (hc:aT aA w' k M)=>EX hc n);rw[HWV.o]at HWE;rw[HBV.o]at Ii;have WI:Hid (firstB M.view f x n=if NP.qO M.view n then ⟨4,0,NP.bC M.view n,0⟩ else if f then ⟨0,0,NP.bC M.view n,0⟩ else if 0<x then ⟨2,x,NP.bC M.view n,0⟩ else ⟨3,0,NP.bC M.view n,0⟩):=az rfl;clear HWV HBV
   generalize NP.bC M.view n=wv at*;generalize NP.qO M.view n=bv at*;go_wp2_with fail;refine(HWE.o _ yx.o).mono ?_;rintro e wx ⟨rfl,rfl⟩;go_upto_block 3 with fail;have A0:=D7 wx #[vi 3,vi 0,vi wv,vi 0] 193;have F3:=az (aD.new wx 193 #[vi 3,vi 0,vi wv,vi 0]);have S3:=az (st.o.old A0);have G3:=az (hg.o.old A0);have Ij:=az (yx.o.old A0);have ahd:=cell_below hfc A0;have CU:Hid (w'.heap.size<=wx.heap.size/\v.ownBlock≠some wx.heap.size/\wx.heap.size≠m):=az ⟨st.o.below.size,(λe=>by
    obtain⟨_,cur,hbk⟩:=st.o.own.row _ e
    have:=hbk.lt
    omega),(λe=>by have:=st.o.mgr.lt;omega)⟩
   have Ik:Hid (wx.heap.size≠gb):=az (λe=>by have:=hg.o.lt;omega);clear st hg hgp hlc hfc yx A0;generalize wx.alloc (ach #[vi 3,vi 0,vi wv,vi 0] 193)=w4 at*;generalize wx.heap.size=gx at*;have b0:w4.cell? ⟨gx,0,none⟩=some (vi 3):=F3.o.cell 0;have b1:w4.cell? ⟨gx,1,none⟩=some (vi 0):=F3.o.cell 1;have y0:=F3.o.frozen 0;have y1:=F3.o.frozen 1;go_cut [14] from 54 to 107 (λv14 wy=>v14=vi n/\Hid (OpenSt w' k m aC bad l v wy)/\Hid (aD wy gb 103 #[vi M.B,vi M.P,vi M.S])/\Hid (aD wy gx 193 #[vi (firstB M.view f x n).s,vi (firstB M.view f x n).l,vi (firstB M.view f x n).r,vi (firstB M.view f x n).n]))
   case first =>
    go_wp2_with fail;refine(Ii.o _ Ij.o).mono ?_;rintro e wy ⟨rfl,rfl⟩;cases bv
    ·cases f
     ·by_cases hx:0<x
      ·have hxd:decide (0<x)=true:=decide_eq_true hx;have HV:Hid (firstB M.view false x n=⟨2,x,wv,0⟩):=az (by rw[WI.o];simp[hx]);clear hx;go_wp2;go_meet;refine⟨rfl,az ((S3.o.var CU.o.1 CU.o.2.1 CU.o.2.2 _).var CU.o.1 CU.o.2.1 CU.o.2.2 _),az ((G3.o.far (p:=⟨gx,0,none⟩) Ik.o.symm _).far (p:=⟨gx,1,none⟩) Ik.o.symm _),az ?_⟩;rw[HV.o];exact(F3.o.bB 0 _).bB 1 _
      have hxd:decide (0<x)=false:=decide_eq_false hx;have HV:Hid (firstB M.view false x n=⟨3,0,wv,0⟩):=az (by rw[WI.o];simp[hx]);clear hx;go_wp2;go_meet;refine⟨rfl,S3,G3,az ?_⟩;rw[HV.o];exact F3.o
     have HV:Hid (firstB M.view true x n=⟨0,0,wv,0⟩):=az (by rw[WI.o];rfl);go_wp2;go_meet;refine⟨rfl,az (S3.o.var CU.o.1 CU.o.2.1 CU.o.2.2 _),az (G3.o.far (p:=⟨gx,0,none⟩) Ik.o.symm _),az ?_⟩;rw[HV.o];exact F3.o.bB 0 _
    have HV:Hid (firstB M.view f x n=⟨4,0,wv,0⟩):=az (by rw[WI.o];rfl);go_wp2;go_meet;refine⟨rfl,az (S3.o.var CU.o.1 CU.o.2.1 CU.o.2.2 _),az (G3.o.far (p:=⟨gx,0,none⟩) Ik.o.symm _),az ?_⟩;rw[HV.o];exact F3.o.bB 0 _
   case rest =>
   obtain⟨rfl,S4,G4,F4⟩:=hcut;clear b0 b1 y0 y1 S3 G3 F3 Ij ahd WI HWE Ii E3;generalize firstB M.view f x n=z at*
   obtain⟨zs,zl,zr,zn⟩:=z;dsimp only at F4;have k0:wc.cell? ⟨gx,0,none⟩=some (vi zs):=F4.o.cell 0;have k1:wc.cell? ⟨gx,1,none⟩=some (vi zl):=F4.o.cell 1;have k2:wc.cell? ⟨gx,2,none⟩=some (vi zr):=F4.o.cell 2;have k3:wc.cell? ⟨gx,3,none⟩=some (vi zn):=F4.o.cell 3;have hgl:gx<wc.heap.size:=F4.o.lt;have Df:m<wc.heap.size:=S4.o.mgr.lt;obtain⟨v5,w5,hrun,jT,hg5⟩:=Fg (S4.o.old au).own ⟨zs,zl,zr,zn⟩ (by
    have h1:l.length=n:=by
     have:=congrArg List.length QR.o
     rw[firstL_length,List.length_append]at this
     simpa using this.symm
    have h2:=hB.o
    have h3:=H2.o
    omega) S4.o.below.size
   have RA:eH 189 189 189 v (aco (some ⟨wc.heap.size,0,none⟩) 1 1) (wc.alloc (ach #[vi zs,vi zl,vi zr,vi zn] 193)).drew v5 w5:=hrun;have S5:=az ((S4.o.old au).next (x:=⟨zs,zl,zr,zn⟩) jT hg5);obtain⟨av,cv,hv⟩:=S4.o.own.form;have c1:wc.cell? ⟨m,1,none⟩=some v:=S4.o.mgr.cell 1;have JR:aD w5 m 191 _:=((S4.o.mgr.drew).alloc (ach #[vi zs,vi zl,vi zr,vi zn] 193)).grown hg5 (bU ((S4.o.old au).own.old (ak.alloc aj (ach #[vi zs,vi zl,vi zr,vi zn] 193))) ((S4.o.mgr.drew).alloc _) ag);have d1:w5.cell? ⟨m,1,none⟩=some v:=JR.cell 1
   have y1:=JR.frozen 1;have G5:Hid (aD (w5.setCell ⟨m,1,none⟩ v5) gb 103 #[vi M.B,vi M.P,vi M.S]):=az (by
    have h1:=((G4.o.drew).alloc (ach #[vi zs,vi zl,vi zr,vi zn] 193)).grown hg5 (bU ((S4.o.old au).own.old (ak.alloc aj (ach #[vi zs,vi zl,vi zr,vi zn] 193))) ((G4.o.drew).alloc _) ag)
    refine h1.far (p:=⟨m,1,none⟩) (λe=>?_) _
    subst e
    unfold aD at h1 JR
    rw[JR]at h1
    injection h1 with h1
    injection h1 with _ h1
    exact absurd h1 ag)
   obtain⟨av5,cv5,adp⟩:=jT.form;have hv5:v5=aco av5 (l.length+1) cv5:=by rw[adp];simp
   subst hv hv5;have aj1:live.length<=128:=by have h2:=hB.o;have h3:=H2.o;omega
   clear adp hrun jT hg5 JR F4 S4 G4;go_upto_region 21 with fail;go_region_law (refine jH (.tmp 101) (.tmp 103) RA (by rfl) (by rfl) (by go_simp) (by go_simp) ?_);all_goals
    go_wp2;go_roundw
    case rel=>exact⟨n+1,_,aa,by go_num,az (by rw[QR.o];exact S5.o),zq,G5⟩
    case measure=>simp[intOf];omega
  obtain rfl:n=live.length:=aa;have HE:Hid (jX M.view fresh live aC bad=(0,some ⟨firstL M.view fresh live live.length,-1,aC,bad,uq (firstL M.view fresh live live.length)⟩)):=az (by
   have h0:=hall.o
   rw[H2.o]at h0 ⊢
   rw[dN.o,if_pos h0])
  have je:Hid ((firstL M.view fresh live live.length).length=live.length):=az (firstL_length _ _ _ _);have vJ:Hid (live.length=M.B/\8<=M.B/\M.B<=128):=az ⟨H2.o,hB.o.1,hB.o.2.1⟩;have HEV:Hid (uq (firstL M.view fresh live live.length)=decide (4<wrap64 (gcs.l9 (firstL M.view fresh live live.length)-gcs.eP (firstL M.view fresh live live.length)))):=az rfl;clear hall hg dN HL HF hn1 hlt;generalize firstL M.view fresh live live.length=l at*
  obtain⟨gl,cl,rfl,harr,hgl⟩:=kY.Rm st.o.own (by rw[je.o];have:=vJ.o;omega);have HRW:Hid (∀w'',acN wr.heap.size wr w''->gcs.Row w'' (aco (some ⟨gl,0,none⟩) l.length cl) l):=az (λw'' hb=>by
   have ha:=harr.old hb
   obtain⟨cur,_,g1,g2,_⟩:=ha.blk
   refine⟨by unfold maxLen at g2;omega,_,_,rfl,acm ⟨gl,0,rfl,λi hi=>?_⟩⟩
   have hc:∀j,j<4->w''.cell? ⟨gl,i*4+j,none⟩=(gQ (l.getD i default))[j]?:=λj hj=>by
    rw[ha.cell aa,flat_get gT default _ _ _ hi hj]
   rw[Nat.zero_add]
   exact⟨hc 0 ag,hc 1 ag,hc 2 ag,hc 3 ag⟩)
  have HG:Hid (∀w'',acN wr.heap.size wr w''->ac4 prog 124 #[aco (some ⟨gl,0,none⟩) l.length cl] w'' λe w3=>e=ab4 (vi (gcs.l9 l))/\acN w''.heap.size w'' w3):=az (λw'' hb=>gcs.ES _ _ _ (HRW.o _ hb));have wU:Hid (∀w'',acN wr.heap.size wr w''->ac4 prog 125 #[aco (some ⟨gl,0,none⟩) l.length cl] w'' λe w3=>e=ab4 (vi (gcs.eP l))/\acN w''.heap.size w'' w3):=az (λw'' hb=>gcs.DX _ _ _ (HRW.o _ hb));have adq:=az harr;have HGL:=az hgl;clear harr hgl HRW;have c1:wr.cell? ⟨m,1,none⟩=some (aco (some ⟨gl,0,none⟩) l.length cl):=st.o.mgr.cell 1
  have C1:=az (show wr.drew.cell? ⟨m,1,none⟩=some (aco (some ⟨gl,0,none⟩) l.length cl) from c1);have Om:Hid ((⟨m,5,none⟩:acM)≠⟨m,1,none⟩):=az (λe=>by injection e with _ e;cases e);have BD:=az (acN.drew (acN.refl wr.heap.size wr));generalize gcs.l9 l=xg at*;generalize gcs.eP l=xl at*;have HD5:Hid (∀w'',acN wr.heap.size wr w''->w''.cell? ⟨m,5,none⟩=some (acg false)/\w''.frozen? ⟨m,5,none⟩=false):=az (λw'' hb=>⟨(st.o.mgr.old hb).cell 5,(st.o.mgr.old hb).frozen 5⟩);clear c1;go_upto_region 23 with fail;go_region_held3 (λw'=>w'.cell? ⟨m,1,none⟩=some (aco (some ⟨gl,0,none⟩) l.length cl))
   (first
    |exact C1.o
    |exact cell_below C1.o WJ
    |exact cell_below C1.o R9
    |exact(ac6 _ _ _ _ Om.o).trans (cell_below C1.o WJ))
   (first
    |(go_at_call 124;refine(HG.o _ BD.o).mono ?_;rintro e wa ⟨rfl,R9⟩;have BA:=az (BD.o.trans (R9.mono aj)))
    |(go_at_call 125;refine(wU.o _ BA.o).mono ?_;rintro e wb ⟨rfl,hbe⟩;have WJ:=R9.trans (hbe.mono R9.size);have BB:=az (BD.o.trans (WJ.mono aj));have x5:=(HD5.o _ BB.o).1;have y5:=(HD5.o _ BB.o).2))
  have HQ:Hid (decide (4<IntKind.i64.wrap (xg-xl))=uq l):=az (by rw[HEV.o,IntWalk.i64_left]);rw[HQ.o];have Y3:Hid (acN w'.heap.size w' (wb.setCell ⟨m,5,none⟩ (acg (uq l)))):=az ((st.o.below.trans (BB.o.mono st.o.below.size)).setCell (p:=⟨m,5,none⟩) st.o.low _);have HK:Hid (Held aA (wb.setCell ⟨m,5,none⟩ (acg (uq l))) m ⟨k,l,gl,cl,-1,aC,bad,uq l⟩ M):=az (by
   have hne:gl≠m:=λe=>adq.o.dM st.o.mgr ag e
   refine⟨⟨(st.o.mgr.old BB.o).bB 5 _,(adq.o.old BB.o).far (p:=⟨m,5,none⟩) hne _,?_⟩,HC.o.old Y3.o⟩
   intro n hn
   rcases hn with rfl|rfl
   exact abX hbase st.o.low
   exact abX hbase HGL.o)
  have HOW:Hid (∀n,iL.foot ⟨k,l,gl,cl,-1,aC,bad,uq l⟩ m n->w'.heap.size<=n):=az (by
   intro n hn
   rcases hn with rfl|rfl
   exact st.o.low
   exact HGL.o)
  clear R9 hbe WJ x5 y5;generalize wb.setCell ⟨m,5,none⟩ (acg (uq l))=w9 at*;generalize jX M.view fresh live aC bad=R at*;obtain rfl:=HE.o;go_wp2;go_ret2;exact⟨Y3.o,m,_,rfl,HK.o,rfl,rfl,HOW.o⟩
end mgr
end Go.Proofs.YtllmbcigmimgoaaGreat
