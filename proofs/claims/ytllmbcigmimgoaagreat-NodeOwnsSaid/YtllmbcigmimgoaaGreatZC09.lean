/-
  Lemmas for a law's proof, put together from several texts. No conditions of their own.
-/
import Derived.Test.YtllmbcigmimgoaaGreatZC08
import Derived.Test.YtllmbcigmimgoaaGreatZC03
import Derived.Shelf.SlSortCmp.NoneTotal
import Derived.Shelf.SlSortCmp.SmallK
import Derived.Ground.SlsfProg
set_option maxRecDepth 100000
set_option maxHeartbeats 20000000
set_option linter.all false
namespace Go.Proofs
open _root_.Go.Proofs.Tryz
open Shelf
def Tryz.sortHeld_ren:Go.Shelf.Ren:=⟨fun|6=>193|15=>127|14=>215|28=>162|29=>163|20=>237|21=>238|22=>239|23=>240|24=>241|25=>242|26=>243|27=>244|46=>247|47=>178|48=>179|49=>248|50=>249|57=>250|n=>n,fun|22=>225|24=>251|25=>253|3=>3|39=>197|0=>0|53=>118|55=>150|4=>4|46=>215|45=>214|50=>157|5=>5|9=>9|66=>236|70=>240|76=>266|77=>267|n=>n,fun|n=>n⟩
theorem Tryz.sortHeld:Go.Proofs.SlLaysF0.n6 Tryz.prog Tryz.sortHeld_ren:={mixed:=by kernel_rfl,f6:=⟨f193.name,by decide,hS func193⟩,f14:=⟨f215.name,by decide,hS func215⟩,f15:=hS func127,f20:=⟨f237.name,by decide,hS func237⟩,f21:=⟨f238.name,by decide,hS func238⟩,f22:=⟨f239.name,by decide,hS func239⟩,f23:=⟨f240.name,by decide,hS func240⟩,f24:=⟨f241.name,by decide,hS func241⟩,f25:=⟨f242.name,by decide,hS func242⟩,f26:=⟨f243.name,by decide,hS func243⟩,f27:=⟨f244.name,by decide,hS func244⟩,f28:=hS func162,f29:=hS func163,f46:=⟨f247.name,by decide,hS func247⟩,f47:=hS func178,f48:=hS func179,f49:=⟨f248.name,by decide,hS func248⟩,f50:=⟨f249.name,by decide,hS func249⟩,f57:=⟨f250.name,by decide,hS func250⟩,t0:=underlying0,a0:=isAgg0,z0:=sizeOf0,v0:=zeroValue0,t3:=underlying3,a3:=isAgg3,z3:=sizeOf3,v3:=zeroValue3,t4:=underlying4,a4:=isAgg4,z4:=sizeOf4,v4:=zeroValue4,t5:=underlying5,a5:=isAgg5,z5:=sizeOf5,v5:=zeroValue5,t9:=underlying9,a9:=isAgg9,z9:=sizeOf9,v9:=zeroValue9,t22:=underlying225,a22:=isAgg225,z22:=sizeOf225,v22:=zeroValue225,t25:=underlying253,a25:=isAgg253,z25:=sizeOf253,v25:=zeroValue253,t39:=underlying197,a39:=isAgg197,z39:=sizeOf197,v39:=zeroValue197,t45:=underlying214,a45:=isAgg214,z45:=sizeOf214,v45:=zeroValue214,t46:=underlying215,a46:=isAgg215,z46:=sizeOf215,v46:=zeroValue215,t50:=underlying157,a50:=isAgg157,z50:=sizeOf157,v50:=zeroValue157,t53:=underlying118,a53:=isAgg118,z53:=sizeOf118,v53:=zeroValue118,t55:=underlying150,a55:=isAgg150,z55:=sizeOf150,v55:=zeroValue150,t66:=underlying236,a66:=isAgg236,z66:=sizeOf236,v66:=zeroValue236,t70:=underlying240,a70:=isAgg240,z70:=sizeOf240,v70:=zeroValue240,t76:=underlying266,a76:=isAgg266,z76:=sizeOf266,v76:=zeroValue266,t77:=underlying267,a77:=isAgg267,z77:=sizeOf267,v77:=zeroValue267}
end Go.Proofs
namespace Go.Proofs.YtllmbcigmimgoaaGreat
open _root_.Go.Proofs.Tryz
open _root_.And renaming intro->ae7
open _root_.Bool renaming and_eq_true->ac8,false_eq_true->afW,or_eq_true->ae5
open _root_.Classical renaming byContradiction->ad2
open _root_.Go renaming World->acL,Calls->ac4,Value->acK
open _root_.Go.Ending renaming returned->ab4
open _root_.Go.IntKind renaming i64->adk
open _root_.Go.IntWalk renaming i64_in->adl
open _root_.Go.Obj renaming cells->ach
open _root_.Go.RowKit renaming Below->acN
open _root_.Go.Value renaming slice->aco,tuple->adg
open _root_.Int renaming toNat_natCast->acW
open _root_.List renaming append_assoc->adM,getD_eq_getElem?_getD->aah,eq_nil_of_length_eq_zero->aaY,length_append->acZ,take_left'->afX,drop_left'->afZ,pairwise_cons->aaL,length_pos_of_mem->aiP,length_cons->adV
open _root_.Nat renaming le_trans->abX,mod_eq_of_lt->af0
open _root_.Option renaming map_some->afY
open _root_.Or renaming inr->acm,inl->ack
namespace FP
open mgr ft
section
variable{c:NP.bX}{g:Mg}{k:Nat}
def qA (x:gcs.aD):gcs.aD:={x with l:=x.l-1,s:=if x.s=2/\x.l-1=0 then 3 else x.s}
def rX (hk:k<g.l.length)(hs:(g.blk k).s≠4)(hl:(g.blk k).l≠0):g.drop k=(0,g.put k (qA (g.blk k))):=by
 have ht:g.there k=true:=by
  unfold Mg.there;rw[decide_eq_true aa,decide_eq_true aa,acW,Bool.and_self,Bool.true_and];exact bne_iff_ne.2 hs
 unfold Mg.drop;rw[if_neg (by
  rw[ht,acW]
  rintro (e|e)
  cases e
  exact hl e)]
 dsimp only;rw[acW];rfl
def Gp (x:gcs.aD):(qA x).s=x.s\/(x.s=2/\(qA x).s=3):=by
 unfold qA;dsimp only;split;rename_i h;exact acm ⟨h.1,rfl⟩;exact ack rfl
def wG (hk:k<g.l.length)(hs:(g.blk k).s≠4)(hl:(g.blk k).l≠0)(j:Nat):(g.drop k).2.blk j=if k=j then qA (g.blk k) else g.blk j:=by
 rw[rX hk hs hl];exact iB g hk _ j
def CG.drops (h:CG c g)(hk:k<c.B)(hl:(g.blk k).l≠0):CG c (g.drop k).2:=by
 have hkl:k<g.l.length:=by rw[h.len];exact hk
 have hr:=uQ h.lL k;have hb:=wG hkl (h.J2 k hk) hl;have hd:=Gp (g.blk k);refine⟨h.good,hr,h.fs,h.up,h.whole,λj hj=>?_,λj hj=>?_,λj hj=>?_⟩;rw[hb];split;rename_i e;subst e;have:=h.J2 k hk;omega;exact h.J2 j hj;rw[hb];split;rename_i e;subst e;intro e;have:(qA (g.blk k)).n=(g.blk k).n:=rfl;rw[this];exact h.n1 k hk aa;exact h.n1 j hj;rw[hb];split;rename_i e;subst e;intro e;exact h.n0 k hk aa;exact h.n0 j hj
def EF (hk:k<g.l.length)(hs:(g.blk k).s≠4)(hl:(g.blk k).l≠0)(P:Nat):bT (g.drop k).2.jD P=bT g.jD P:=by
 have hb:=wG hk hs hl;have hd:=Gp (g.blk k);have hc:=count_set 0 g.l k (qA (g.blk k)) hk;have hx:(if (g.l.getD k default).s=0 then 1 else 0)=(if (qA (g.blk k)).s=0 then 1 else 0:Nat):=by
  have e:(g.l.getD k default).s=(g.blk k).s:=rfl;rw[e];by_cases h0:(g.blk k).s=0;rw[if_pos h0,if_pos aa];rw[if_neg h0,if_neg aa]
 have hn:∀j,((g.drop k).2.blk j).n=(g.blk j).n:=λj=>by
  rw[hb];split;rename_i e;subst e;rfl;rfl
 have hat:(g.drop k).2.at_=g.at_:=by rw[rX hk hs hl];rfl
 have hcl:aN 0 (g.drop k).2.l=aN 0 g.l:=by
  rw[rX hk hs hl];show aN 0 (g.l.set k (qA (g.blk k)))=_;omega
 show (aN 0 (g.drop k).2.l:Nat)*(P:Int)+(if (g.drop k).2.at_= -1 then 0 else (P:Int)-((g.drop k).2.blk (g.drop k).2.at_.toNat).n)=(aN 0 g.l:Nat)*(P:Int)+(if g.at_= -1 then 0 else (P:Int)-(g.blk g.at_.toNat).n);rw[hn,hat,hcl]
end
section
variable{f f2:Ft}{n:Int}{old iE:cB}{sl:Bool}
def PV (f:Ft)(sl:Bool)(n:Int)(p:cB)(s:Bool)(m:Int):(f.dE sl n p).gM s m=if s=sl/\m=n then some p else f.gM s m:=by
 unfold Ft.dE Ft.gM;cases sl<;>cases s<;>simp[MP.get_put,eq_comm]
def Lu (f:Ft)(n:Int)(s:Bool)(m:Int):(f.dC n).gM s m=f.gM s m:=by
 unfold Ft.dC;split<;>rfl
def Lv (f:Ft)(n:Int)(k:Int):(f.dC n).raw k=f.raw k:=by
 unfold Ft.dC;split<;>rfl
def jA (f:Ft)(n:Int):f.dC n={f with gone:=(f.dC n).gone}:=by
 unfold Ft.dC;split<;>rfl
def Lx (f:Ft)(n m:Int):MP.has (f.dC n).gone m=MP.has f.gone m:=by
 unfold Ft.dC;split;rename_i h;unfold MP.has at h ⊢;dsimp only;rw[MP.get_put];split;rename_i e;subst e;rw[h.2];rfl;rfl;rfl
def X9 (H:Sound f)(ho:f.gM sl n=some old)(k:Int):∃R,((f.dE sl n iE).raw k).Perm ((if iE.block=k then [⟨sl,n,iE⟩] else [])++R)/\(f.raw k).Perm ((if old.block=k then [⟨sl,n,old⟩] else [])++R):=by
 unfold Ft.gM at ho;cases sl;obtain⟨h1,h2⟩:=Nw (sl:=false) (iE:=iE) H.Wm ho k;refine⟨hin true f.bD k++hin false (MP.del f.now n) k,?_,?_⟩;show (hin true f.bD k++hin false (MP.put f.now n iE) k).Perm _;refine(h1.append_left _).trans ?_;rw[<-adM,<-adM];exact List.perm_append_comm.append_right _;show (hin true f.bD k++hin false f.now k).Perm _;refine(h2.append_left _).trans ?_;rw[<-adM,<-adM];exact List.perm_append_comm.append_right _;obtain⟨h1,h2⟩:=Nw (sl:=true) (iE:=iE) H.sok ho k;refine⟨hin true (MP.del f.bD n) k++hin false f.now k,?_,?_⟩
 show (hin true (MP.put f.bD n iE) k++hin false f.now k).Perm _;rw[<-adM];exact h1.append_right _;show (hin true f.bD k++hin false f.now k).Perm _;rw[<-adM];exact h2.append_right _
structure aeF (f:Ft)(k:Nat)(h:Hd)(f':Ft):Prop where
 sound:Sound f'
 keep:jl f f'
 raw:(f.raw k).Perm (h::f'.raw k)
 aK:bT f'.g.jD f'.c.P=bT f.g.jD f.c.P-1
 st:f'.raw k≠[]->(f'.g.blk k).s=2
 st3:(f'.g.blk k).s=2\/(f'.g.blk k).s=3
 eF:∀j,(f'.g.blk j).r=(f.g.blk j).r
def wH {m:Mp cB}(h:ft.Low m){p:cB}(e:MP.get m n=some p):0<=n/\n<8192:=h.2 (n,p) (MP.get_mem e)
def UZ (H:Sound f){k:Nat}(hk:k<f.c.B){h:Hd}(hh:h∈f.raw k)(hs:(f.g.blk k).s=2)(hr:0<bT f.g.jD f.c.P):∃f',f.mv1 k h=some f'/\aeF f k h f':=by
 obtain⟨hb,he⟩:=H.mem.1 hh;have hin:=H.place _ _ _ he;have hrd:=zS H.cg hin;rw[hb]at hrd;have hcl:=wu H.cg.good.ok hin;have C1:=H.cg.reads (NP.qH (f.c.reads+1));obtain⟨i,c',g',hrun,E⟩:=C1.program (b:=cont f.c h.at_) hr hcl.1 hcl.2;have hok1:({f.c with reads:=NP.qH (f.c.reads+1)}:NP.bX).ok:=C1.good.ok;obtain⟨hn1,hn2⟩:=E.new hok1 hcl.1;have aeG:=zS E.cg hn1;rw[hn2]at aeG;have C2:=E.cg.reads (NP.qH (c'.reads+1));obtain⟨iE,hto⟩:∃p:cB,p=⟨(i:Nat),(({f.c with reads:=NP.qH (f.c.reads+1)}:NP.bX).blk i).next⟩:=⟨_,rfl⟩;rw[<-hto]at hn1 hn2;have hgl:=H.cg.len;have hkl:k<f.g.l.length:=aa
 have hik:i≠k:=λe=>by
  have:=E.st;rw[e,hs]at this;omega
 have Fe:g'.blk k=f.g.blk k:=E.uh k (λe=>hik e.symm);have hcnt:=H.live k hk;have hpos:0<(f.raw k).length:=aiP hh;have hl0:(g'.blk k).l≠0:=by rw[Fe,hcnt];omega
 have anG:g'.l.length=f.c.B:=by rw[E.cg.len];exact E.bI.1
 have hkl':k<g'.l.length:=aa;have hs':(g'.blk k).s=2:=by rw[Fe];exact hs
 have hs4:(g'.blk k).s≠4:=by rw[hs'];decide
 have hdrop:=rX hkl' hs4 hl0;have hgb:=wG hkl' hs4 hl0;have C3:CG {c' with reads:=NP.qH (c'.reads+1)} (g'.drop k).2:=C2.drops (by show k<c'.B;rw[E.bI.1];exact hk) hl0;let f1:Ft:={f with c:={c' with reads:=NP.qH (c'.reads+1)},g:=g'};let f2:Ft:=(f1.dE h.sl h.aB iE).dC h.aB;let f':Ft:={f2 with g:=(g'.drop k).2};have hfun:f.mv1 k h=some f':=by
  have hcp:({f with c:={f.c with reads:=NP.qH (f.c.reads+1)}}:Ft).copied (cont f.c h.at_)=some (iE,f1):=by
   unfold Ft.copied;dsimp only;rw[hrun];dsimp only;rw[if_neg ai];have:NP.bQ c' (i:Nat) (({f.c with reads:=NP.qH (f.c.reads+1)}:NP.bX).blk i).next=((cont f.c h.at_,0),{c' with reads:=NP.qH (c'.reads+1)}):=aeG;rw[this];dsimp only;rw[if_neg ai,hto]
  unfold Ft.mv1;dsimp only;rw[hrd];dsimp only;rw[if_neg ai,hcp];dsimp only;have:((f1.dE h.sl h.aB iE).dC h.aB).g=g':=by
   rw[jA];dsimp only;unfold Ft.dE;split<;>rfl
  rw[this]
 have hc':f2.c={c' with reads:=NP.qH (c'.reads+1)}:=by
  show ((f1.dE h.sl h.aB iE).dC h.aB).c=_;rw[jA];dsimp only;unfold Ft.dE;split<;>rfl
 have hent:∀s n,f'.gM s n=if s=h.sl/\n=h.aB then some iE else f.gM s n:=λs n=>by
  show f2.gM s n=_;show ((f1.dE h.sl h.aB iE).dC h.aB).gM s n=_;rw[Lu,PV];rfl
 have hcont:∀p,EC f.c p->EC c' p/\cont c' p=cont f.c p:=λp hp=>by
  have hq:EC ({f.c with reads:=NP.qH (f.c.reads+1)}:NP.bX) p:=⟨hp.b0,hp.b1,hp.p0,hp.p1⟩;have:=E.keep hok1 hq;exact this
 have hraw:∀j:Nat,∃R,(f'.raw j).Perm ((if iE.block=j then [⟨h.sl,h.aB,iE⟩] else [])++R)/\(f.raw j).Perm ((if h.at_.block=j then [⟨h.sl,h.aB,h.at_⟩] else [])++R):=λj=>by
  obtain⟨R,h1,h2⟩:=X9 (iE:=iE) H he (j:Int);refine⟨R,?_,h2⟩;have:f'.raw j=(f.dE h.sl h.aB iE).raw j:=by
   show ((f1.dE h.sl h.aB iE).dC h.aB).raw j=_;rw[Lv];unfold Ft.dE;split<;>rfl
  rw[this];exact h1
 have hrest:f2.aC=f.aC/\f2.bad=f.bad/\f2.text=f.text/\f2.seq=f.seq/\f2.aM=f.aM/\f2.later=f.later/\f2.over=f.over:=by
  show ((f1.dE h.sl h.aB iE).dC h.aB).aC=_/\((f1.dE h.sl h.aB iE).dC h.aB).bad=_/\((f1.dE h.sl h.aB iE).dC h.aB).text=_/\((f1.dE h.sl h.aB iE).dC h.aB).seq=_/\((f1.dE h.sl h.aB iE).dC h.aB).aM=_/\((f1.dE h.sl h.aB iE).dC h.aB).later=_/\((f1.dE h.sl h.aB iE).dC h.aB).over=_;rw[jA];dsimp only;unfold Ft.dE;split<;>exact⟨rfl,rfl,rfl,rfl,rfl,rfl,rfl⟩
 have hhas:∀n,MP.has f2.gone n=MP.has f.gone n:=λn=>by
  show MP.has ((f1.dE h.sl h.aB iE).dC h.aB).gone n=_;rw[Lx];unfold Ft.dE;split<;>rfl
 have U0:f2.bD=(if h.sl then MP.put f.bD h.aB iE else f.bD)/\f2.now=(if h.sl then f.now else MP.put f.now h.aB iE):=by
  show ((f1.dE h.sl h.aB iE).dC h.aB).bD=_/\((f1.dE h.sl h.aB iE).dC h.aB).now=_;rw[jA];dsimp only;unfold Ft.dE;cases h.sl<;>exact⟨rfl,rfl⟩
 have Jm:ft.Low f2.gone:=by
  show ft.Low ((f1.dE h.sl h.aB iE).dC h.aB).gone;have hg1:(f1.dE h.sl h.aB iE).gone=f.gone:=by unfold Ft.dE;split<;>rfl
  unfold Ft.dC;split;rename_i hc;dsimp only;rw[hg1];have hx:MP.has f.gone h.aB=true:=by rw[<-hg1];exact hc.2
  unfold MP.has at hx;obtain⟨v,hv⟩:=Option.isSome_iff_exists.1 hx;exact H.fit.kQ.put (wH H.fit.kQ hv) _;rw[hg1];exact H.fit.kQ
 have hlow:ft.Low f2.bD/\ft.Low f2.now/\f2.bD.length=f.bD.length/\f2.now.length=f.now.length:=by
  rw[U0.1,U0.2];unfold Ft.gM at he;cases hsl:h.sl with
  |true =>
   rw[hsl]at he;simp only[if_true]at he ⊢;exact⟨H.fit.slow.put (wH H.fit.slow he) _,H.fit.oG,zb H.sok he,trivial⟩
  |false =>
   rw[hsl]at he;simp only[afW,if_false]at he ⊢;exact⟨H.fit.slow,H.fit.oG.put (wH H.fit.oG he) _,trivial,zb H.Wm he⟩
 have Ny:c'.B=f.c.B/\c'.P=f.c.P/\c'.S=f.c.S:=E.bI;have Gq:=sP g' k;have Cj:=E.same;have aeH:iE.block=(i:Int):=by rw[hto]
 have hlive:∀j:Nat,j<f.c.B->((g'.drop k).2.blk j).l=((f'.raw j).length:Nat):=λj hj=>by
  obtain⟨R,h1,h2⟩:=hraw j;have e1:=h1.length_eq;have e2:=h2.length_eq;have hL:=H.live j hj;have hLi:=E.live;rw[acZ]at e1 e2;rw[aeH]at e1;rw[hb]at e2;rw[hgb];by_cases c1:k=j;subst c1;rw[if_pos rfl];rw[if_neg aa]at e1;rw[if_pos rfl]at e2;simp only[List.length_nil,adV]at e1 e2;unfold qA;dsimp only;rw[Fe,hL];omega;rw[if_neg c1];rw[if_neg aa]at e2;by_cases c2:i=j;subst c2;rw[if_pos rfl]at e1;simp only[List.length_nil,adV]at e1 e2;have aiX:(g'.blk i).l=(f.g.blk i).l+1:=hLi;rw[aiX,hL];omega;rw[if_neg aa]at e1
  simp only[List.length_nil]at e1 e2;rw[E.uh j (λe=>c2 e.symm),hL];omega
 have hS:Sound f':=by
  have hcg:CG f'.c f'.g:=by show CG f2.c (g'.drop k).2;rw[hc'];exact C3
  refine⟨⟨hcg.good,hcg.lL,?_,?_,hlow.1,hlow.2.1,Jm,?_,?_⟩,hcg,?_,?_,?_,?_,?_,?_⟩;show 0<=f2.aC/\f2.aC<=65535/\0<=f2.bad/\f2.bad<=65535;rw[hrest.1,hrest.2.1];exact H.fit.res;show 0<=(g'.drop k).2.aC/\(g'.drop k).2.aC<=65535/\0<=(g'.drop k).2.bad/\(g'.drop k).2.bad<=65535;rw[Gq.1,Gq.2,Cj.1,Cj.2.1];exact H.fit.qE;show f2.later.length=f2.c.B;rw[hrest.2.2.2.2.2.1,hc'];show f.later.length=c'.B;rw[Ny.1];exact H.fit.rz;show f2.text.length<=1000;rw[hrest.2.2.1];exact H.fit.lC;show f2.over=false;rw[hrest.2.2.2.2.2.2];exact H.over;show f2.later.all (λx=> !x)=true
  rw[hrest.2.2.2.2.2.1];exact H.later;intro s n p hp;show EC f2.c p;rw[hc'];rw[hent]at hp;split at hp;cases hp;exact⟨hn1.b0,hn1.b1,hn1.p0,hn1.p1⟩;obtain⟨q,_⟩:=hcont p (H.place _ _ _ hp);exact⟨q.b0,q.b1,q.p0,q.p1⟩;intro s n p s' n' h1 h2;rw[hent]at h1 h2;have hfr:∀s n p,f.gM s n=some p->p≠iE:=λs n p hp=>by
   have hq:=H.place _ _ _ hp;rw[hto];exact gJ.fresh (c:={f.c with reads:=NP.qH (f.c.reads+1)}) ⟨hq.b0,hq.b1,hq.p0,hq.p1⟩
  split at h1;rename_i a1;split at h2;rename_i a2;exact⟨a1.1.trans a2.1.symm,a1.2.trans a2.2.symm⟩;cases h1;exact absurd rfl (hfr _ _ _ h2);split at h2;cases h2;exact absurd rfl (hfr _ _ _ h1);exact H.inj _ _ _ _ _ h1 h2;intro j hj;have hj':j<f.c.B:=by
   have:f'.c.B=f.c.B:=by
    show f2.c.B=_;rw[hc'];exact Ny.1
   rw[this]at hj;exact hj
  exact hlive j hj';intro n hn;have h1:MP.has f.gone n=true:=by rw[<-hhas];exact hn
  have h2:=H.gone n h1;show MP.has f2.bD n=true;rw[U0.1];split;unfold MP.has at h2 ⊢;rw[MP.get_put];split;rfl;exact h2;exact h2
 refine⟨f',hfun,hS,⟨?_,⟨hrest.1,hrest.2.1,hrest.2.2.1,hrest.2.2.2.1,hrest.2.2.2.2.1⟩,?_,?_,hhas,hlow.2.2⟩,?_,?_,?_,?_,?_⟩;show f2.c.B=_/\f2.c.P=_/\f2.c.S=_;rw[hc'];exact Ny;refine⟨Gq.1.trans Cj.1,Gq.2.trans Cj.2.1,?_⟩;show (g'.drop k).2.even=_;rw[hdrop];exact Cj.2.2;intro s n;rw[hent];show Option.map (cont f2.c) _=_;rw[hc'];have hcc:∀p,cont {c' with reads:=NP.qH (c'.reads+1)} p=cont c' p:=λ_=>rfl
 split;rename_i e;rw[e.1,e.2,he];simp only[afY];rw[hcc,hn2];cases hx:f.gM s n with
 |none=>rfl
 |some p =>
  simp only[afY];rw[hcc,(hcont p (H.place _ _ _ hx)).2]
 obtain⟨R,h1,h2⟩:=hraw k;rw[aeH,if_neg aa]at h1;rw[hb,if_pos rfl]at h2;exact h2.trans ((h1.symm.cons _));show bT (g'.drop k).2.jD f2.c.P=_;rw[hc',EF hkl' hs4 hl0];show bT g'.jD c'.P=_;rw[Ny.2.1];exact E.aK;intro hne;show ((g'.drop k).2.blk k).s=2;have h3:=hlive k hk;rw[hgb,if_pos rfl]at h3 ⊢;unfold qA at h3 ⊢;dsimp only at h3 ⊢;rw[hs',if_neg];rintro⟨_,e0⟩;rw[h3]at e0;exact hne (aaY aa);show ((g'.drop k).2.blk k).s=2\/((g'.drop k).2.blk k).s=3;rw[hgb,if_pos rfl];have:=Gp (g'.blk k);rw[hs']at this;omega;intro j
 show ((g'.drop k).2.blk j).r=_;rw[hgb];by_cases c1:k=j;subst c1;rw[if_pos rfl];unfold qA;dsimp only;rw[Fe];rw[if_neg c1];by_cases c2:i=j;subst c2;exact E.eF;rw[E.uh j (λe=>c2 e.symm)]
end
structure Nz (f:Ft)(k:Nat)(f':Ft):Prop where
 sound:Sound f'
 keep:jl f f'
 raw:f'.raw k=[]
 aK:bT f'.g.jD f'.c.P=bT f.g.jD f.c.P-((f.raw k).length:Nat)
 st:f'=f\/((f'.g.blk k).s=2\/(f'.g.blk k).s=3)
 eF:∀j,(f'.g.blk j).r=(f.g.blk j).r
variable{f f':Ft}{k:Nat}
def Sound.tK (H:Sound f)(k:Int):(f.needed k).Pairwise (λx y=>x.at_.aB<y.at_.aB):=EB H.EE
def NA:∀(L:List Hd) (f:Ft),Sound f->k<f.c.B->f.needed k=L->(f.raw k≠[]->(f.g.blk k).s=2)->((f.raw k).length:Int)<=bT f.g.jD f.c.P->∃f',mvTo k L f=some f'/\Nz f k f'
 |[],f,H,hk,hn,hs,hr=>by
  have hp:=gZ (f.raw k)
  have hnil:f.raw k=[]:=by
   have:EA (f.raw k)=[]:=hn;rw[this]at hp;exact(List.nil_perm.1 hp)
  exact⟨f,rfl,H,jl.refl f,hnil,by rw[hnil];simp,ack rfl,λ_=>rfl⟩
 |h::L,f,H,hk,hn,hs,hr=>by
  have hp:(f.needed k).Perm (f.raw k):=gZ _;rw[hn]at hp;have hh:h∈f.raw k:=hp.subset ai;have hne:f.raw k≠[]:=List.ne_nil_of_mem hh;have hpos:0<(f.raw k).length:=aiP hh;obtain⟨f1,h1,E⟩:=UZ H hk hh (hs hne) aa;have hlen:=E.raw.length_eq;rw[adV]at hlen;have hL:f1.needed k=L:=by
   refine tJ ?_ (E.sound.tK k) ?_;have h2:(h::f1.needed k).Perm (h::L):=((gZ (f1.raw k)).cons h).trans (E.raw.symm.trans hp.symm);exact List.Perm.cons_inv h2;have:=H.tK k;rw[hn]at this;exact(aaL.1 this).2
  obtain⟨f',h2,E2⟩:=NA L f1 E.sound (by rw[E.keep.bI.1];exact hk) hL E.st (by rw[E.aK];omega);refine⟨f',?_,E2.sound,E.keep.trans E2.keep,E2.raw,by rw[E2.aK,E.aK];omega,?_,λj=>(E2.eF j).trans (E.eF j)⟩;unfold mvTo;rw[h1];exact h2;rcases E2.st with e|e;rw[e];exact acm E.st3;exact acm e
def Yc (H:Sound f)(hk:k<f.c.B)(hs:f.raw k≠[]->(f.g.blk k).s=2)(hr:((f.raw k).length:Int)<=bT f.g.jD f.c.P):∃f',f.move k=some f'/\Nz f k f' :=
 NA _ f H hk rfl hs hr
structure Yd (f:Ft)(k:Nat)(f':Ft):Prop where
 sound:Sound f'
 keep:jl f f'
 aK:bT f'.g.jD f'.c.P=bT f.g.jD f.c.P+(if (f.g.blk k).s=0\/(f.g.blk k).s=1 then 0 else (f.c.P:Int))
 eF:∀j,j≠k->f'.g.blk j=f.g.blk j
 adr:f'.g.blk k=⟨0,0,NP.qH ((f.c.blk k).eF+1),0⟩
 ak2:∀j,(f'.c.blk j).eF=if j=k then NP.qH ((f.c.blk k).eF+1) else (f.c.blk j).eF
def Ye (H:Sound f)(hk:k<f.c.B)(hraw:f.raw k=[])(hs:¬((f.g.blk k).s=1/\0<(f.g.blk k).n)):∃f',f.Gm k=some f'/\Yd f k f':=by
 have C:=H.cg;have hd:=C.bI;have hgl:=C.len;have hkl:k<f.g.l.length:=aa;have hl0:(f.g.blk k).l=0:=by rw[H.live k hk,hraw];rfl
 have h4:=C.J2 k hk;have hidle:f.g.idle f.c k=0:=by
  unfold Mg.idle;rw[C.up];simp only[afW,if_false];rw[if_neg];rintro (e|e);unfold Mg.there at e;rw[decide_eq_true aa,decide_eq_true aa,acW,Bool.and_self,Bool.true_and,bne_eq_false_iff_eq]at e;exact h4 e;rw[acW,hl0]at e;omega
 have abB:NP.erase f.c k=(0,NP.gI (NP.stroke f.c) k ⟨List.replicate f.c.P [],0,false,false,NP.qH ((f.c.blk k).eF+1)⟩):=by
  have ha:NP.asked f.c k 0=0:=by
   unfold NP.asked;rw[C.up];simp only[afW,if_false];rw[if_pos aa]
  have hf:NP.faultOf f.c.fs f.c.since=default:=by rw[C.fs];rfl
  have hk0:(default:NP.Rh).aL=0:=rfl;unfold NP.erase;dsimp only;rw[if_pos ha,acW,(C.whole k hk).1,hf,hk0];simp
 obtain⟨W,hW⟩:∃W,W=NP.qH ((f.c.blk k).eF+1):=⟨_,rfl⟩;rw[<-hW]at abB;obtain⟨c',hc'⟩:∃c',c'=NP.gI (NP.stroke f.c) k ⟨List.replicate f.c.P [],0,false,false,W⟩:=⟨_,rfl⟩;rw[<-hc']at abB;have hcb:∀j,c'.blk j=if k=j then ⟨List.replicate f.c.P [],0,false,false,W⟩ else f.c.blk j:=λj=>by
  rw[hc'];exact NP.il (c:=NP.stroke f.c) (by have:=C.good.ok.blocks;show k<f.c.bs.length;omega)
 have hcB:c'.B=f.c.B:=by rw[hc'];rfl
 have hcP:c'.P=f.c.P:=by rw[hc'];rfl
 have hcS:c'.S=f.c.S:=by rw[hc'];rfl
 have aeI:NP.bC c' k=W:=by
  unfold NP.bC;rw[hcB,if_pos aa,acW,hcb,if_pos rfl]
 have hrun:f.g.erase f.c k=(0,c',((f.g.put k {f.g.blk k with r:=W}).put k ⟨0,0,W,0⟩).shut k):=by
  unfold Mg.erase;dsimp only;rw[hidle,if_neg ai,acW,if_neg hs,abB];dsimp only;rw[if_pos rfl,aeI]
 have yZ:=yG (c:=f.c) (g:=f.g) k;have hright:=erase_right C.lL k;rw[hrun]at yZ hright;dsimp only at yZ hright;have hgb:∀j,(((f.g.put k {f.g.blk k with r:=W}).put k ⟨0,0,W,0⟩).shut k).blk j=if k=j then ⟨0,0,W,0⟩ else f.g.blk j:=λj=>by
  show ((f.g.put k {f.g.blk k with r:=W}).put k ⟨0,0,W,0⟩).blk j=_;rw[iB _ (by rw[Ci];exact hkl),iB _ hkl];split<;>rfl
 have hC:CG c' (((f.g.put k {f.g.blk k with r:=W}).put k ⟨0,0,W,0⟩).shut k):=by
  refine⟨yZ.good C.good,hright,by rw[hc'];exact C.fs,by rw[hc'];exact C.up,λj hj=>?_,λj hj=>?_,λj hj=>?_,λj hj=>?_⟩<;>rw[hcB]at hj;rw[hcb];split;exact⟨rfl,rfl⟩;exact C.whole j hj;rw[hgb];split;show (0:Int)≠4;decide;exact C.J2 j hj;rw[hgb,hcb];split;intro e;cases e;exact C.n1 j hj;rw[hgb,hcb];split;intro _;rfl;exact C.n0 j hj
 obtain⟨g',hg'⟩:∃g',g'=((f.g.put k {f.g.blk k with r:=W}).put k ⟨0,0,W,0⟩).shut k:=⟨_,rfl⟩;rw[<-hg']at hrun hgb hC;have abC:f.later.set k false=f.later:=by
  have hll:k<f.later.length:=by rw[H.fit.rz];exact hk
  have:=H.later;rw[List.all_eq_true]at this;have h1:=this f.later[k] (List.getElem_mem hll);have h2:f.later[k]=false:=by simpa using h1
  rw[<-h2];exact List.set_getElem_self hll
 refine⟨{f with c:=c',g:=g',later:=f.later.set k false},?_,?_⟩;unfold Ft.Gm;dsimp only;rw[hrun];dsimp only;rw[if_pos rfl,acW];rw[abC];have abD:∀s n p,f.gM s n=some p->p.block≠k:=λs n p hp e=>by
  have:(⟨s,n,p⟩:Hd)∈f.raw k:=H.mem.2 ⟨e,hp⟩;rw[hraw]at this;cases this
 have hkeep:∀s n p,f.gM s n=some p->EC c' p/\cont c' p=cont f.c p:=λs n p hp=>by
  have h1:=H.place s n p hp;have h2:=abD s n p hp;have h3:c'.blk p.block.toNat=f.c.blk p.block.toNat:=by
   rw[hcb,if_neg];have:=h1.b0;omega
  refine⟨⟨h1.b0,by rw[hcB];exact h1.b1,h1.p0,by rw[h3];exact h1.p1⟩,?_⟩;unfold cont;rw[h3];unfold NP.bX.full;rw[hcS]
 have hsame:g'.aC=f.g.aC/\g'.bad=f.g.bad/\g'.even=f.g.even:=by rw[hg'];exact⟨rfl,rfl,rfl⟩
 refine⟨⟨⟨hC.good,hC.lL,H.fit.res,?_,H.fit.slow,H.fit.oG,H.fit.kQ,?_,H.fit.lC⟩,hC,H.over,H.later,λs n p hp=>(hkeep s n p hp).1,H.inj,?_,H.gone⟩,⟨⟨hcB,hcP,hcS⟩,⟨rfl,rfl,rfl,rfl,rfl⟩,hsame,?_,λ_=>rfl,⟨rfl,rfl⟩⟩,?_,?_,?_,?_⟩;show 0<=g'.aC/\g'.aC<=65535/\0<=g'.bad/\g'.bad<=65535;rw[hsame.1,hsame.2.1];exact H.fit.qE;show f.later.length=c'.B;rw[hcB];exact H.fit.rz;intro j hj;have hj':j<f.c.B:=by
  have hj2:j<c'.B:=hj;rw[hcB]at hj2;exact hj2
 show (g'.blk j).l=((f.raw j).length:Nat);rw[hgb];split;rename_i e;subst e;rw[hraw];rfl;exact H.live j hj';intro s n;show ((f.gM s n).map (cont c'))=_;cases hx:f.gM s n with
 |none=>rfl
 |some p=>simp only[afY];rw[(hkeep s n p hx).2]
 show bT g'.jD c'.P=_;rw[hcP];have hl':g'.l=f.g.l.set k ⟨0,0,W,0⟩:=by rw[hg'];show (f.g.l.set k _).set k _=_;rw[List.set_set]
 have hat':g'.at_=if (k:Int)=f.g.at_ then -1 else f.g.at_:=by rw[hg'];rfl
 have hcnt:=count_set 0 f.g.l k ⟨0,0,W,0⟩ hkl;rw[if_pos rfl]at hcnt;have e0:(f.g.l.getD k default).s=(f.g.blk k).s:=rfl;rw[e0]at hcnt;have e1:bT g'.jD f.c.P=(aN 0 g'.l:Nat)*(f.c.P:Int)+(if g'.at_= -1 then 0 else (f.c.P:Int)-(g'.blk g'.at_.toNat).n):=rfl;have e2:bT f.g.jD f.c.P=(aN 0 f.g.l:Nat)*(f.c.P:Int)+(if f.g.at_= -1 then 0 else (f.c.P:Int)-(f.g.blk f.g.at_.toNat).n):=rfl;rw[e1,e2,hl',hat'];have UY:=C.lL.at2 k hkl;rcases C.lL.QP with ha|⟨i,ha,hi,hsi⟩;have hne:¬(k:Int)=f.g.at_:=aa;have hs1:(f.g.blk k).s≠1:=λe=>by have:=UY e;omega
 rw[if_neg hne,if_pos ha,if_pos ha];by_cases h0:(f.g.blk k).s=0;rw[if_pos h0]at hcnt;rw[if_pos (ack h0)];have:aN 0 (f.g.l.set k ⟨0,0,W,0⟩)=aN 0 f.g.l:=aa;rw[this];omega;rw[if_neg h0]at hcnt;rw[if_neg aa];have:aN 0 (f.g.l.set k ⟨0,0,W,0⟩)=aN 0 f.g.l+1:=aa;rw[this,Int.natCast_add,Int.add_mul];omega;by_cases hki:k=i;subst hki;rw[if_pos ha.symm,if_pos rfl,if_neg aa,if_pos (acm hsi),ha,acW];have hn0:(f.g.blk k).n=0:=by
  have h5:=(C.lL.QO _ (dG hkl)).2.2.2.2.1;have h6:0<=(f.g.blk k).n:=h5;omega
 rw[if_neg aa]at hcnt;have:aN 0 (f.g.l.set k ⟨0,0,W,0⟩)=aN 0 f.g.l+1:=aa;rw[this,Int.natCast_add,Int.add_mul,hn0];omega;have hne:¬(k:Int)=f.g.at_:=aa;have hs1:(f.g.blk k).s≠1:=λe=>by have:=UY e;omega
 have hi1:¬(i:Int)= -1:=aa;rw[if_neg hne,ha,if_neg hi1,if_neg hi1,acW,hgb,if_neg hki];by_cases h0:(f.g.blk k).s=0;rw[if_pos h0]at hcnt;rw[if_pos (ack h0)];have:aN 0 (f.g.l.set k ⟨0,0,W,0⟩)=aN 0 f.g.l:=aa;rw[this];omega;rw[if_neg h0]at hcnt;rw[if_neg aa];have:aN 0 (f.g.l.set k ⟨0,0,W,0⟩)=aN 0 f.g.l+1:=aa;rw[this,Int.natCast_add,Int.add_mul];omega;intro j hj;show g'.blk j=_;rw[hgb,if_neg (λe=>hj e.symm)];show g'.blk k=_;rw[hgb,if_pos rfl,hW];intro j;show (c'.blk j).eF=_;rw[hcb,<-hW];by_cases e:j=k;rw[if_pos e,if_pos e.symm];rw[if_neg e,if_neg (λh=>e h.symm)]
def firstTo_pos (P:gcs.aD->Bool):∀(l:List gcs.aD) (k:Nat),0<=gcs.firstTo P l k->∃i,i<l.length/\gcs.firstTo P l k=((k+i:Nat):Int)/\P (l.getD i default)=true
 |[],k,h=>by unfold gcs.firstTo at h;omega
 |x::l,k,h=>by
  unfold gcs.firstTo at h ⊢
  split
  rename_i hx
  exact⟨0,ai,ai,by simpa using hx⟩
  rename_i hx
  rw[if_neg hx]at h
  obtain⟨i,hi,e,hp⟩:=firstTo_pos P l (k+1) h
  exact⟨i+1,by simpa using hi,by rw[e];omega,by simpa using hp⟩
def PW (aK:Bool)(x:gcs.aD):Prop:=x.s=3\/(aK=true/\x.s=2)\/x.s=0\/(x.s=1/\x.n=0)
def LA {bs:List gcs.aD}{p:Int}{aK:Bool}:(gcs.vG bs p aK).1≠0->∃k:Nat,(gcs.vG bs p aK).2=k/\k<bs.length/\PW aK (bs.getD k default):=by
 have hb:∀(P:gcs.aD->Bool) (Q:gcs.aD->gcs.aD->Bool),0<=gcs.iP P Q bs->(∀x,P x=true->PW aK x)->∃k:Nat,gcs.iP P Q bs=k/\k<bs.length/\PW aK (bs.getD k default):=λP Q h hP=>by
  have h1:=Au P Q bs bs.length h;have h2:=(gcs.ky P Q bs).2;refine⟨(gcs.iP P Q bs).toNat,aa,aa,hP _ h1⟩
 unfold gcs.vG gcs.forcedL gcs.jF;split;split;rename_i h;intro _;exact hb _ _ h (λx hx=>by
  unfold gcs.iK at hx
  simp only[ac8,beq_iff_eq]at hx
  exact ack hx.1)
 split;rename_i h;intro _;exact hb _ _ h (λx hx=>by
  unfold gcs.fullB at hx
  simp only[ac8,beq_iff_eq]at hx
  exact acm (ack hx.1.1))
 split;rename_i h;intro _;obtain⟨i,hi,e,hp⟩:=firstTo_pos (gcs.og (gcs.eP bs)) bs 0 h;refine⟨i,by show gcs.firstTo _ _ _=_;rw[e];omega,hi,?_⟩;unfold gcs.og at hp;simp only[ac8,ae5,beq_iff_eq]at hp;exact acm (acm hp.2);split;rename_i h;intro _;exact hb _ _ h (λx hx=>by
  unfold gcs.fullB at hx
  simp only[ac8,beq_iff_eq]at hx
  exact acm (ack hx.1))
 split;rename_i h;intro _;exact hb _ _ h (λx hx=>by
  unfold gcs.iK at hx
  exact ack (by simpa using hx))
 split;rename_i h;intro _;exact hb _ _ h (λx hx=>by
  unfold gcs.xx gcs.fullB at hx
  simp only[ac8,beq_iff_eq]at hx
  exact acm (ack hx.1))
 intro h;exact absurd rfl h;intro h;exact absurd rfl h
def uX (l:List gcs.aD):∀n i,((zeroTo l n).getD i default).s=(l.getD i default).s/\((zeroTo l n).getD i default).n=(l.getD i default).n/\((zeroTo l n).getD i default).l=(l.getD i default).l
 |0,i=>⟨rfl,rfl,rfl⟩
 |n+1,i=>by
  have ih:=uX l n i
  unfold zeroTo
  rw[aah,List.getElem?_set]
  split
  rename_i e
  subst e
  split
  exact ih
  rename_i hlt
  have:(zeroTo l n).getD n default=default:=by
   rw[aah,List.getElem?_eq_none aa];rfl
  rw[this]at ih;exact ih;rw[<-aah];exact ih
def Sound.U1 (H:Sound f)(h:f.next.1≠0):∃k:Nat,f.next.2=k/\k<f.c.B/\PW (decide ((f.c.P:Int)<=bT f.g.jD f.c.P)) (f.g.blk k):=by
 unfold Ft.next AU at h ⊢;obtain⟨k,h1,h2,h3⟩:=LA h;have hl:(if f.g.jD.even then zeroTo f.g.jD.l f.g.jD.l.length else f.g.jD.l).length=f.c.B:=by
  split;rw[nO];exact H.cg.len;exact H.cg.len
 refine⟨k,h1,by rw[<-hl];exact h2,?_⟩;have he:((if f.g.jD.even then zeroTo f.g.jD.l f.g.jD.l.length else f.g.jD.l).getD k default).s=(f.g.blk k).s/\((if f.g.jD.even then zeroTo f.g.jD.l f.g.jD.l.length else f.g.jD.l).getD k default).n=(f.g.blk k).n:=by
  split;exact⟨(uX _ _ _).1,(uX _ _ _).2.1⟩;exact⟨rfl,rfl⟩
 unfold PW at h3 ⊢;rw[he.1,he.2]at h3;exact h3
def Sound.U2 (H:Sound f)(hk:k<f.c.B):(f.raw k).length<=f.c.P:=by
 have h1:=H.live k hk;have hkl:k<f.g.l.length:=by rw[H.cg.len];exact hk
 have h2:(f.g.blk k).l<=f.c.P:=(H.cg.lL.QO _ (dG hkl)).2.2.2.1;omega
def Sound.NB (H:Sound f)(hk:k<f.c.B)(h1:(f.g.blk k).s≠1)(h2:(f.g.blk k).s≠2):f.raw k=[]:=by
 have h3:=H.live k hk;have hkl:k<f.g.l.length:=by rw[H.cg.len];exact hk
 have h4:(f.g.blk k).l=0:=H.cg.lL.none_ _ (dG hkl) h1 h2;exact aaY aa
def NC (H:Sound f)(h0:f.next.1≠0):∃k:Nat,f.next.2=k/\k<f.c.B/\(f.raw k≠[]->(f.g.blk k).s=2)/\((f.raw k).length:Int)<=bT f.g.jD f.c.P/\PW (decide ((f.c.P:Int)<=bT f.g.jD f.c.P)) (f.g.blk k):=by
 obtain⟨k,hk2,hk,U3⟩:=H.U1 h0;have hkl:k<f.g.l.length:=by rw[H.cg.len];exact hk
 have hs:f.raw k≠[]->(f.g.blk k).s=2:=λhne=>by
  rcases U3 with e|⟨_,e⟩|e|⟨e,e2⟩;exact absurd (H.NB hk aa aa) hne;exact e;exact absurd (H.NB hk aa aa) hne;exfalso;apply hne;have h3:=H.live k hk;have h4:=(H.cg.lL.open_ _ (dG hkl) e).1;have h5:(f.g.blk k).l<=(f.g.blk k).n:=h4;exact aaY aa
 refine⟨k,hk2,hk,hs,?_,U3⟩;rcases Nat.eq_zero_or_pos (f.raw k).length with e|e;rw[e];have hd:=H.cg.bI;have e2:bT f.g.jD f.c.P=(aN 0 f.g.l:Nat)*(f.c.P:Int)+(if f.g.at_= -1 then 0 else (f.c.P:Int)-(f.g.l.getD f.g.at_.toNat default).n):=rfl;have e3:0<=(aN 0 f.g.l:Nat)*(f.c.P:Int):=Int.mul_nonneg aa aa;rw[e2];split;omega;rename_i hat;rcases H.cg.lL.QP with ha|⟨i,ha,hi,hsi⟩;exact absurd ha hat;rw[ha,acW];have h4:=(H.cg.lL.open_ _ (dG hi) hsi).2;have h5:(f.g.blk i).n<f.c.P:=h4;have h6:(f.g.l.getD i default).n=(f.g.blk i).n:=rfl;rw[h6];omega;have h2:=hs (λe2=>by rw[e2]at e;simp at e)
 have h3:=H.U2 hk;rcases U3 with e|⟨e,_⟩|e|⟨e,_⟩;omega;have:=of_decide_eq_true e;omega;omega;omega
structure abE (f:Ft)(k:Nat)(f1 f':Ft):Prop where
 sound:Sound f'
 keep:jl f f'
 aK:bT f'.g.jD f'.c.P=bT f.g.jD f.c.P+(if (f.g.blk k).s=0\/(f.g.blk k).s=1 then 0 else (f.c.P:Int)-((f.raw k).length:Nat))
 move:f.move k=some f1
 mid:Sound f1/\k<f1.c.B
 Gm:f1.Gm k=some f'
def qP (H:Sound f):(f.next.1=0/\f.act=some (40,f))\/∃(k:Nat) (f1 f':Ft),f.next.1≠0/\f.next.2=k/\k<f.c.B/\f.act=some (0,f')/\abE f k f1 f':=by
 by_cases h0:f.next.1=0;exact ack ⟨h0,by unfold Ft.act;rw[if_pos h0]⟩;right;obtain⟨k,hk2,hk,hs,hr,U3⟩:=NC H h0;have hkl:k<f.g.l.length:=by rw[H.cg.len];exact hk
 obtain⟨f1,h1,E1⟩:=Yc H hk hs hr;have hk1:k<f1.c.B:=by rw[E1.keep.bI.1];exact hk
 have hst:¬((f1.g.blk k).s=1/\0<(f1.g.blk k).n):=by
  rcases E1.st with e|e;rw[e];rintro⟨e1,e2⟩;rcases U3 with e|⟨_,e⟩|e|⟨e,e3⟩<;>omega;rintro⟨e1,_⟩;omega
 obtain⟨f2,h2,E2⟩:=Ye E1.sound hk1 E1.raw hst;refine⟨k,f1,f2,h0,hk2,hk,?_,E2.sound,E1.keep.trans E2.keep,?_,h1,⟨E1.sound,hk1⟩,h2⟩;unfold Ft.act;rw[if_neg h0,hk2,h1];dsimp only;rw[h2];rw[E2.aK,E1.aK,E1.keep.bI.2.1];rcases E1.st with e|e;rw[e];have hr0:f.raw k=[]:=by have:=E1.raw;rwa[e]at this
 rw[hr0];split<;>simp;rw[if_neg aa];by_cases hne:f.raw k=[];rw[hne];by_cases c0:(f.g.blk k).s=0\/(f.g.blk k).s=1;exfalso;have hmv:f1=f:=by
  have hn:f.needed k=[]:=by unfold Ft.needed;rw[hne];rfl
  unfold Ft.move at h1;rw[hn]at h1;unfold mvTo at h1;injection h1 with h1;exact h1.symm
 rw[hmv]at e;omega;rw[if_neg c0];simp;rw[if_neg (by have:=hs hne;omega)];omega
def ze:∀(n:Nat) (f:Ft),Sound f->∃e f',ensureTo n f=some (e,f')/\Sound f'/\jl f f'/\((e=0/\enough f'.g f'.c.P=true)\/e=40)
 |0,f,H=>⟨40,f,rfl,H,jl.refl f,acm rfl⟩
 |n+1,f,H=>by
  unfold ensureTo
  by_cases he:enough f.g f.c.P=true
  rw[if_pos he]
  exact⟨0,f,rfl,H,jl.refl f,ack ⟨rfl,he⟩⟩
  rw[if_neg he]
  rcases qP H with⟨_,h1⟩|⟨k,_,f1,_,_,_,h1,E⟩
  rw[h1]
  dsimp only
  rw[if_neg ag]
  exact⟨40,f,rfl,H,jl.refl f,acm rfl⟩
  rw[h1]
  dsimp only
  rw[if_pos rfl]
  obtain⟨e,f',h2,h3,h4,h5⟩:=ze n f1 E.sound
  exact⟨e,f',h2,h3,E.keep.trans h4,h5⟩
def tL (H:Sound f):∃e f',f.Cf=some (e,f')/\Sound f'/\jl f f'/\((e=0/\enough f'.g f'.c.P=true)\/e=40):=ze _ f H
end FP
namespace TP
def abF {n:Nat}{p a b c d e:List Nat}(k:Nat)(hp:p.length=n)(ha:a.length=4)(hb:b.length=8)(hc:c.length=8)(hd:d.length=4)(he:e.length=4) :
  ((p++[67,85,k,0]++a++b++c++d++e).drop n).take 2=[67,85]/\(((p++[67,85,k,0]++a++b++c++d++e).drop n).drop 2).take 1=[k] /\
  (((p++[67,85,k,0]++a++b++c++d++e).drop n).drop 3).take 1=[0]/\(((p++[67,85,k,0]++a++b++c++d++e).drop n).drop 4).take 4=a/\(((p++[67,85,k,0]++a++b++c++d++e).drop n).drop 8).take 8=b /\
  (((p++[67,85,k,0]++a++b++c++d++e).drop n).drop 16).take 8=c/\(((p++[67,85,k,0]++a++b++c++d++e).drop n).drop 24).take 4=d/\(((p++[67,85,k,0]++a++b++c++d++e).drop n).drop 28).take 4=e /\
  (p++[67,85,k,0]++a++b++c++d++e).take n=p/\(p++[67,85,k,0]++a++b++c++d++e).take (n+24)=p++[67,85,k,0]++a++b++c:=by
 have hr:(p++[67,85,k,0]++a++b++c++d++e).drop n=[67,85,k,0]++(a++(b++(c++(d++e)))):=by
  simp only[adM];rw[afZ hp]
 have h4:([67,85,k,0]++(a++(b++(c++(d++e))))).drop 4=a++(b++(c++(d++e))):=rfl;have h8:([67,85,k,0]++(a++(b++(c++(d++e))))).drop 8=b++(c++(d++e)):=by
  rw[show (8:Nat)=4+4 from rfl,<-List.drop_drop,h4,afZ ha]
 have h16:([67,85,k,0]++(a++(b++(c++(d++e))))).drop 16=c++(d++e):=by
  rw[show (16:Nat)=8+8 from rfl,<-List.drop_drop,h8,afZ hb]
 have h24:([67,85,k,0]++(a++(b++(c++(d++e))))).drop 24=d++e:=by
  rw[show (24:Nat)=16+8 from rfl,<-List.drop_drop,h16,afZ hc]
 have h28:([67,85,k,0]++(a++(b++(c++(d++e))))).drop 28=e:=by
  rw[show (28:Nat)=24+4 from rfl,<-List.drop_drop,h24,afZ hd]
 rw[hr,h4,h8,h16,h24,h28];refine⟨rfl,rfl,rfl,afX ha,afX hb,afX hc,afX hd,by rw[List.take_of_length_le aa],?_,?_⟩;simp only[adM];rw[afX hp];rw[adM,afX (by simp;omega)]
def sum_lt (l:List Nat):HP.sum l<4294967296:=by unfold HP.sum;omega
def LB {t:Tag}{p:List Nat}(ht:right t=true)(hp:sized p.length=true):read (bytes t p)=(t,p,0):=by
 obtain⟨kd,pg,sq,ep⟩:=t;unfold right at ht;simp only[ac8,ae5,beq_iff_eq,decide_eq_true_eq]at ht;have hb:bytes ⟨kd,pg,sq,ep⟩ p=p++[67,85,qN kd,0]++HP.le 4 pg++HP.le 8 sq++HP.le 8 ep++HP.le 4 (HP.sum (head ⟨kd,pg,sq,ep⟩ p))++HP.le 4 0:=rfl;obtain⟨q1,q2,q3,q4,q5,q6,q7,q8,q9,q10⟩:=abF (n:=p.length) (p:=p) (a:=HP.le 4 pg) (b:=HP.le 8 sq) (c:=HP.le 8 ep) (d:=HP.le 4 (HP.sum (head ⟨kd,pg,sq,ep⟩ p))) (e:=HP.le 4 0) (qN kd) rfl (HP.eU _ _) (HP.eU _ _) (HP.eU _ _) (HP.eU _ _) (HP.eU _ _);rw[<-hb]at q1 q2 q3 q4 q5 q6 q7 q8 q9 q10;have hlen:=vD ⟨kd,pg,sq,ep⟩ p
 have hn:(bytes ⟨kd,pg,sq,ep⟩ p).length-32=p.length:=aa;have hk:((HP.num [qN kd]:Nat):Int)=kd:=by
  unfold qN HP.num HP.num;rcases ht.1.1.1.1.1 with e|e<;>rw[e]<;>rfl
 have htag:Ab ((bytes ⟨kd,pg,sq,ep⟩ p).drop p.length)=⟨kd,pg,sq,ep⟩:=by
  unfold Ab;rw[q2,q4,q5,q6,hk,HP.wZ,HP.wZ,HP.wZ];rw[af0 (show pg<256 ^ 4 by omega),af0 (show sq<256 ^ 8 by omega),af0 (show ep<256 ^ 8 by omega)]
 have aeJ:ones (bytes ⟨kd,pg,sq,ep⟩ p)=false:=by
  unfold ones;rw[List.all_eq_false];refine⟨67,?_,ag⟩;rw[hb];simp
 have hright:right ⟨kd,pg,sq,ep⟩=true:=by
  unfold right;simp only[ac8,ae5,beq_iff_eq,decide_eq_true_eq];exact ht
 have hsum:=sum_lt (head ⟨kd,pg,sq,ep⟩ p);have hgood:jW (bytes ⟨kd,pg,sq,ep⟩ p) ((bytes ⟨kd,pg,sq,ep⟩ p).drop p.length) p.length=true:=by
  unfold jW;rw[q1,q3,q7,q8,q10,htag,hright,HP.wZ,HP.wZ];rw[af0 (show HP.sum (head ⟨kd,pg,sq,ep⟩ p)<256 ^ 4 by omega)];simp[HP.num,head]
 unfold read;have hi:((bytes ⟨kd,pg,sq,ep⟩ p).length:Int)-32=p.length:=aa;rw[if_neg (by rw[hi,hp];simp),aeJ,if_neg ai];dsimp only;rw[hn,hgood,if_pos rfl,htag,q9]
end TP
namespace FP
open mgr ft
def Ft.see (f:Ft)(n:Nat):Option (List Nat):=(f.at_ n).map (cont f.c)
def nU (f:Ft)(n:Nat):f.at_ n=match f.gM false n with
  |some p=>some p
  |none=>if MP.has f.gone n then none else f.gM true n:=rfl
variable{f f':Ft}
def jl.see (h:jl f f')(n:Nat):f'.see n=f.see n:=by
 unfold Ft.see;rw[nU,nU,h.gone];have h1:=h.gM false n;have h2:=h.gM true n;cases hx:f.gM false n with
 |some p =>
  cases hy:f'.gM false n with
  |some q =>
   rw[hx,hy]at h1;exact h1
  |none =>
   rw[hx,hy]at h1;cases h1
 |none =>
  cases hy:f'.gM false n with
  |some q =>
   rw[hx,hy]at h1;cases h1
  |none =>
   dsimp only;split;rfl;exact h2
def Sound.aeK (H:Sound f){n:Nat}{p:cB}(h:f.at_ n=some p):EC f.c p:=by
 rw[nU]at h;cases hx:f.gM false n with
 |some q=>rw[hx]at h;cases h;exact H.place _ _ _ hx
 |none =>
  rw[hx]at h;dsimp only at h;split at h;cases h;exact H.place _ _ _ h
def Sound.read (H:Sound f)(n:Nat):(f.read n).1=if f.logical n≠0 then ([],f.logical n) else match f.see n with
  |none=>([],60)
  |some l=>if (TP.read l).2.2≠0 then ([],21) else ((TP.read l).2.1,0):=by
 unfold Ft.read Ft.see;dsimp only;split;rfl
 ·cases hx:f.at_ n with
  |none=>rfl
  |some p =>
   have hr:=zS H.cg (H.aeK hx);dsimp only[afY];rw[hr];dsimp only;rw[if_neg ai];split<;>rfl
def ku (m:Mp cB)(j:Int):Nat:=(m.filter λx=>x.2.block==j).length
def ob (o:Option cB)(j:Int):Nat:=match o with
 |some q=>if q.block=j then 1 else 0
 |none=>0
def wI (f:Ft)(j:Int):(f.raw j).length=ku f.bD j+ku f.now j:=by
 unfold Ft.raw hin ku;rw[acZ,List.length_map,List.length_map]
def yf {m m':Mp cB}(h:m.Perm m')(j:Int):ku m j=ku m' j:=(h.filter _).length_eq
def tN (x:Int×cB)(m:Mp cB)(j:Int):ku (x::m) j=ku m j+ob (some x.2) j:=by
 unfold ku ob;rw[List.filter_cons];dsimp only;by_cases e:x.2.block=j;rw[if_pos (by simp[e]),if_pos e];rfl;rw[if_neg (by simp[e]),if_neg e];rfl
section
variable{m:Mp cB}{n j:Int}{p:cB}
def Gr (_hm:MP.Ok m):ku (MP.del m n) j+ob (MP.get m n) j=ku m j:=by
 cases h:MP.get m n with
 |none=>rw[MP.qR h];rfl
 |some q=>rw[yf (MP.fO h),tN]
def ND (hm:MP.Ok m):ku (MP.put m n p) j+ob (MP.get m n) j=ku m j+ob (some p) j:=by
 rw[yf (MP.qU hm n p),tN];have:=Gr (n:=n) (j:=j) hm;dsimp only;omega
def Jn (h:MP.get m n=some p):0<ku m p.block:=by
 rw[yf (MP.fO h),tN];unfold ob;dsimp only;rw[if_pos rfl];omega
end
def eB (g:Mg)(o:Option cB):Mg:=match o with
 |some q=>(g.drop q.block).2
 |none=>g
structure Yf (c:NP.bX)(g:Mg)(o:Option cB):Prop where
 cg:CG c (eB g o)
 live:∀j:Nat,((eB g o).blk j).l=(g.blk j).l-ob o j
 aK:∀P:Nat,bT (eB g o).jD P=bT g.jD P
 same:(eB g o).aC=g.aC/\(eB g o).bad=g.bad/\(eB g o).even=g.even
 eF:∀j,((eB g o).blk j).r=(g.blk j).r
def oV {c:NP.bX}{g:Mg}(h:CG c g)(o:Option cB)(ho:∀q,o=some q->0<=q.block/\q.block<c.B/\(g.blk q.block.toNat).l≠0):Yf c g o:=by
 cases o with
 |none=>exact⟨h,λj=>by show (g.blk j).l=(g.blk j).l-(0:Nat);omega,λ_=>rfl,⟨rfl,rfl,rfl⟩,λ_=>rfl⟩
 |some q =>
  obtain⟨h0,h1,h2⟩:=ho q rfl;obtain⟨k,hk⟩:∃k:Nat,q.block=k:=⟨q.block.toNat,aa⟩;rw[hk,acW]at h2;have hkB:k<c.B:=aa;have hkl:k<g.l.length:=by rw[h.len];exact hkB
  have hb:=wG hkl (h.J2 k hkB) h2;have e:eB g (some q)=(g.drop k).2:=by
   show (g.drop q.block).2=_;rw[hk]
  have hs:=sP g k;refine⟨by rw[e];exact h.drops hkB h2,λj=>?_,λP=>by rw[e];exact EF hkl (h.J2 k hkB) h2 P,by rw[e];refine⟨hs.1,hs.2,?_⟩;rw[rX hkl (h.J2 k hkB) h2];rfl,λj=>?_⟩;rw[e,hb];unfold ob;dsimp only;rw[hk];by_cases c:k=j;subst c;rw[if_pos rfl,if_pos rfl];rfl;rw[if_neg c,if_neg aa];simp;rw[e,hb];split;rename_i c;subst c;rfl;rfl
structure yg (f:Ft)(l:List Nat)(p:cB)(f':Ft):Prop where
 eq:f'={f with c:=f'.c,g:=f'.g,seq:=f.seq+1}
 cg:CG f'.c f'.g
 bI:f'.c.B=f.c.B/\f'.c.P=f.c.P/\f'.c.S=f.c.S
 same:f'.g.aC=f.g.aC/\f'.g.bad=f.g.bad/\f'.g.even=f.g.even
 new:EC f'.c p/\cont f'.c p=l
 keep:∀q,EC f.c q->EC f'.c q/\cont f'.c q=cont f.c q
 fresh:∀q,EC f.c q->q≠p
 live:∀j:Nat,(f'.g.blk j).l=(f.g.blk j).l+ob (some p) j
 aK:bT f'.g.jD f'.c.P=bT f.g.jD f.c.P-1
 eF:∀j,(f'.g.blk j).r=(f.g.blk j).r
section
variable{aL:Int}{aB:Nat}{b:List Nat}
def Jo (H:Sound f)(he:enough f.g f.c.P=true):0<bT f.g.jD f.c.P:=by
 unfold enough at he;dsimp only at he;have h1:=of_decide_eq_true he;have hd:=H.cg.bI;have hg:=H.fit.qE;have h4:aN 4 f.g.l=0:=by
  rcases Nat.eq_zero_or_pos (aN 4 f.g.l) with e|e;exact e;obtain⟨i,hi,hs⟩:=uW e;exact absurd hs (H.cg.J2 i (by rw[<-H.cg.len];exact hi))
 have hl:left f.g=f.g.aC+f.g.bad:=by unfold left;rw[h4];omega
 have hfree:1<=((aN 0 f.g.l:Nat):Int):=by
  rw[hl]at h1;split at h1<;>omega
 have e2:bT f.g.jD f.c.P=(aN 0 f.g.l:Nat)*(f.c.P:Int)+(if f.g.at_= -1 then 0 else (f.c.P:Int)-(f.g.l.getD f.g.at_.toNat default).n):=rfl;have e3:(f.c.P:Int)<=(aN 0 f.g.l:Nat)*(f.c.P:Int):=by
  have:=Int.mul_le_mul_of_nonneg_right hfree (show (0:Int)<=f.c.P by omega);omega
 rw[e2];split;omega;rename_i hat;rcases H.cg.lL.QP with ha|⟨i,ha,hi,hsi⟩;exact absurd ha hat;rw[ha,acW];have h4:=(H.cg.lL.open_ _ (dG hi) hsi).2;have h5:(f.g.blk i).n<f.c.P:=h4;have h6:(f.g.l.getD i default).n=(f.g.blk i).n:=rfl;rw[h6];omega
def Yg (H:Sound f)(he:enough f.g f.c.P=true)(hw:(TP.write ⟨aL,aB,f.seq,f.aM⟩ b).2=0)(hb:∀y∈b,y<256)(hl:b.length=f.c.S) :
  ∃p f',f.put aL aB b=some (p,f')/\yg f (TP.write ⟨aL,aB,f.seq,f.aM⟩ b).1 p f':=by
 have hr:=Jo H he;have hs:=rC (t:=⟨aL,aB,f.seq,f.aM⟩) hb;have hll:(TP.write ⟨aL,aB,f.seq,f.aM⟩ b).1.length=f.c.full:=by
  unfold TP.write at hw ⊢;split;rw[TP.vD,hl];rename_i h;rw[if_neg h]at hw;cases hw
 obtain⟨i,c',g',hrun,E⟩:=H.cg.program hr hll hs;have hn:=E.new H.cg.good.ok hll;refine⟨⟨(i:Nat),((f.c.blk i).next:Nat)⟩,{f with c:=c',g:=g',seq:=f.seq+1},?_,rfl,E.cg,E.bI,E.same,hn,λq hq=>E.keep H.cg.good.ok hq,λq hq=>gJ.fresh hq,λj=>?_,?_,λj=>?_⟩;unfold Ft.put;rw[H.later,he];simp only[Bool.and_self,if_true];rw[if_pos hw,hrun];dsimp only;rw[if_pos rfl];unfold ob;dsimp only;by_cases e:i=j;subst e;rw[if_pos rfl];exact E.live;rw[if_neg aa,E.uh j (λh=>e h.symm)];simp;show bT g'.jD c'.P=_;rw[E.bI.2.1];exact E.aK;by_cases e:i=j;subst e;exact E.eF;rw[E.uh j (λh=>e h.symm)]
def U4 {t:TP.Tag}(h1:t.aL=1\/t.aL=2)(h2:t.aB<8192)(h3:1<=t.seq/\t.seq<4611686018427387904)(h4:1<=t.aM/\t.aM<4611686018427387904)(hb:TP.sized b.length=true):TP.write t b=(TP.bytes t b,0)/\TP.right t=true:=by
 have hr:TP.right t=true:=by
  unfold TP.right;simp only[ac8,ae5,beq_iff_eq,decide_eq_true_eq];omega
 refine⟨?_,hr⟩;unfold TP.write;rw[hr,hb];rfl
def Yh (f:Ft)(l:List Nat)(r:(cB×Int)×Ft):Prop:=(r.1.2=40/\Sound r.2/\jl f r.2)\/(r.1.2=0/\∃f1,Sound f1/\jl f f1/\yg f1 l r.1.1 r.2)
def NF (H:Sound f)(h1:aL=1\/aL=2)(h2:aB<8192)(h3:1<=f.seq/\f.seq<4611686018427387904)(h4:1<=f.aM/\f.aM<4611686018427387904)(hb:∀y∈b,y<256)(hl:b.length=f.c.S) :
  ∃r,f.xZ aL aB b=some r/\Yh f (TP.bytes ⟨aL,aB,f.seq,f.aM⟩ b) r:=by
 have hsz:TP.sized b.length=true:=by
  have h5:=H.cg.good.ok.right;unfold NP.bH at h5;simp only[ac8,ae5,beq_iff_eq,decide_eq_true_eq]at h5;unfold TP.sized;simp only[ae5,beq_iff_eq];omega
 obtain⟨e,f1,he,H1,K1,hc⟩:=tL H;unfold Ft.xZ;rw[H.later,if_pos rfl,he];dsimp only;rcases hc with⟨rfl,hen⟩|rfl;rw[if_neg ai];have hw:=U4 (t:=⟨aL,aB,f1.seq,f1.aM⟩) (b:=b) h1 h2 (by rw[K1.num.2.2.2.1];exact h3) (by rw[K1.num.2.2.2.2];exact h4) hsz;obtain⟨p,f2,hp,N⟩:=Yg (aL:=aL) (aB:=aB) (b:=b) H1 hen (by rw[hw.1]) hb (by rw[K1.bI.2.2];exact hl);rw[hp];refine⟨_,rfl,acm ⟨rfl,f1,H1,K1,?_⟩⟩;rw[hw.1,K1.num.2.2.2.1,K1.num.2.2.2.2]at N;exact N;rw[if_pos ag];exact⟨_,rfl,ack ⟨rfl,H1,K1⟩⟩
end
structure l7 (f f':Ft):Prop where
 bI:f'.c.B=f.c.B/\f'.c.P=f.c.P/\f'.c.S=f.c.S
 num:f'.aC=f.aC/\f'.bad=f.bad
 mgr:f'.g.aC=f.g.aC/\f'.g.bad=f.g.bad/\f'.g.even=f.g.even
def l7.refl (f:Ft):l7 f f:=⟨⟨rfl,rfl,rfl⟩,⟨rfl,rfl⟩,⟨rfl,rfl,rfl⟩⟩
def l7.trans {f'':Ft}(h:l7 f f')(k:l7 f' f''):l7 f f'' :=
 ⟨⟨k.bI.1.trans h.bI.1,k.bI.2.1.trans h.bI.2.1,k.bI.2.2.trans h.bI.2.2⟩,⟨k.num.1.trans h.num.1,k.num.2.trans h.num.2⟩,⟨k.mgr.1.trans h.mgr.1,k.mgr.2.1.trans h.mgr.2.1,k.mgr.2.2.trans h.mgr.2.2⟩⟩
def jl.like (h:jl f f'):l7 f f':=⟨h.bI,⟨h.num.1,h.num.2.1⟩,h.mgr⟩
def l7.cap (h:l7 f f'):f'.cap=f.cap:=by
 unfold Ft.cap;rw[h.bI.1,h.bI.2.1,h.num.1,h.num.2]
def l7.logical (H:Sound f)(H':Sound f')(h:l7 f f')(n:Nat):f'.logical n=f.logical n:=by
 unfold Ft.logical;rw[H.cg.up,H'.cg.up,h.cap]
def yh (f:Ft):Prop:=MP.get f.now 0=none
def jl.wJ (h:jl f f')(h0:yh f):yh f':=by
 have:=h.gM false 0;unfold yh at*;unfold Ft.gM at this;simp only[afW,if_false]at this;rw[h0]at this;cases hx:MP.get f'.now 0 with
 |none=>rfl
 |some p=>rw[hx]at this;cases this
section
variable{f1 f2:Ft}{l:List Nat}{p:cB}{n:Int}{G:Mp cB}
def Sound.pos (H:Sound f){s:Bool}{q:cB}(h:f.gM s n=some q):0<=q.block/\q.block<f.c.B/\1<=(f.g.blk q.block.toNat).l:=by
 have h1:=H.place _ _ _ h;have hb:=h1.b0;have hlt:=h1.lt;refine⟨hb,h1.b1,?_⟩;have hL:=H.live _ hlt;rw[wI,Int.toNat_of_nonneg hb]at hL;rw[hL];have:0<ku f.bD q.block+ku f.now q.block:=by
  unfold Ft.gM at h;cases s;have:=Jn (m:=f.now) h;omega;have:=Jn (m:=f.bD) h;omega
 omega
def Sound.enter (H:Sound f1)(N:yg f1 l p f2)(hn:0<=n/\n<8192)(hG:ft.Low G)(hg:∀m,MP.has G m=true->MP.has f1.gone m=true) :
  Sound {f2 with g:=eB f2.g (MP.get f1.now n),now:=MP.put f1.now n p,gone:=G}:=by
 have kI:f2.aC=f1.aC/\f2.bad=f1.bad/\f2.text=f1.text/\f2.later=f1.later/\f2.over=f1.over/\f2.bD=f1.bD/\f2.now=f1.now:=by
  rw[N.eq];exact⟨rfl,rfl,rfl,rfl,rfl,rfl,rfl⟩
 have hD:=oV N.cg (MP.get f1.now n) (λq hq=>by
  have h1:=H.pos (s:=false) (n:=n) hq
  refine⟨h1.1,by rw[N.bI.1];exact h1.2.1,?_⟩
  rw[N.live,]
  have:=h1.2.2
  omega)
 have hent:∀s m,(({f2 with g:=eB f2.g (MP.get f1.now n),now:=MP.put f1.now n p,gone:=G}:Ft)).gM s m=if s=false/\m=n then some p else f1.gM s m:=λs m=>by
  unfold Ft.gM;dsimp only;rw[kI.2.2.2.2.2.1];cases s;simp[MP.get_put,eq_comm];simp
 refine⟨⟨hD.cg.good,hD.cg.lL,?_,?_,?_,H.fit.oG.put hn _,hG,?_,?_⟩,hD.cg,?_,?_,?_,?_,?_,?_⟩;show 0<=f2.aC/\f2.aC<=65535/\0<=f2.bad/\f2.bad<=65535;rw[kI.1,kI.2.1];exact H.fit.res;show 0<=(eB f2.g (MP.get f1.now n)).aC/\(eB f2.g (MP.get f1.now n)).aC<=65535/\0<=(eB f2.g (MP.get f1.now n)).bad/\(eB f2.g (MP.get f1.now n)).bad<=65535;rw[hD.same.1,hD.same.2.1,N.same.1,N.same.2.1];exact H.fit.qE;show ft.Low f2.bD;rw[kI.2.2.2.2.2.1];exact H.fit.slow;show f2.later.length=f2.c.B;rw[kI.2.2.2.1,N.bI.1];exact H.fit.rz;show f2.text.length<=1000;rw[kI.2.2.1];exact H.fit.lC
 show f2.over=false;rw[kI.2.2.2.2.1];exact H.over;show f2.later.all (λx=> !x)=true;rw[kI.2.2.2.1];exact H.later;intro s m q hq;show EC f2.c q;rw[hent]at hq;split at hq;cases hq;exact N.new.1;exact(N.keep _ (H.place _ _ _ hq)).1;intro s m q s' m' h1 h2;rw[hent]at h1 h2;split at h1;rename_i a1;split at h2;rename_i a2;exact⟨a1.1.trans a2.1.symm,a1.2.trans a2.2.symm⟩;cases h1;exact absurd rfl (N.fresh _ (H.place _ _ _ h2));split at h2;cases h2;exact absurd rfl (N.fresh _ (H.place _ _ _ h1));exact H.inj _ _ _ _ _ h1 h2;intro j hj;have hj':j<f1.c.B:=by
  have:j<f2.c.B:=hj;rwa[N.bI.1]at this
 have h1:=hD.live j;have h2:=N.live j;have h3:=H.live j hj';have h4:=ND (n:=n) (j:=(j:Int)) (p:=p) H.Wm;rw[wI]at h3 ⊢;show ((eB f2.g (MP.get f1.now n)).blk j).l=((ku f2.bD j+ku (MP.put f1.now n p) j:Nat):Int);rw[kI.2.2.2.2.2.1,h1,h2,h3];omega;intro m hm;show MP.has f2.bD m=true;rw[kI.2.2.2.2.2.1];exact H.gone m (hg m hm)
def yg.NG (H:Sound f1)(N:yg f1 l p f2){s:Bool}{m:Int}:(f1.gM s m).map (cont f2.c)=(f1.gM s m).map (cont f1.c):=by
 cases hx:f1.gM s m with
 |none=>rfl
 |some q=>simp only[afY];rw[(N.keep _ (H.place _ _ _ hx)).2]
def Sound.yj (H:Sound f1)(N:yg f1 l p f2)(n:Nat)(hg:∀m:Int,m≠n->MP.has G m=MP.has f1.gone m)(m:Nat) :
  (({f2 with g:=eB f2.g (MP.get f1.now n),now:=MP.put f1.now n p,gone:=G}:Ft)).see m=if m=n then some l else f1.see m:=by
 have hs:f2.bD=f1.bD:=by rw[N.eq]
 unfold Ft.see;rw[nU,nU];have hent:∀s (m:Int),(({f2 with g:=eB f2.g (MP.get f1.now n),now:=MP.put f1.now n p,gone:=G}:Ft)).gM s m=if s=false/\m=n then some p else f1.gM s m:=λs m=>by
  unfold Ft.gM;dsimp only;rw[hs];cases s;simp[MP.get_put,eq_comm];simp
 by_cases e:m=n;subst e;rw[if_pos rfl,show _=some p from (hent false m).trans (if_pos ⟨rfl,rfl⟩)];exact congrArg some N.new.2
 ·have e':(m:Int)≠n:=aa;rw[if_neg e,show _=f1.gM false m from (hent false m).trans (if_neg (λh=>e' h.2)),show _=f1.gM true m from (hent true m).trans (if_neg (λh=>e' h.2))];have h1:=N.NG H (s:=false) (m:=m);have h2:=N.NG H (s:=true) (m:=m);dsimp only;rw[hg m e'];cases hx:f1.gM false m with
  |some q=>rw[hx]at h1;exact h1
  |none =>
   dsimp only;split;rfl;exact h2
def U5 (f:Ft)(n:Int):ft.older f n={f with g:=eB f.g (MP.get f.now n)}:=by
 unfold ft.older eB;cases MP.get f.now n<;>rfl
def Sound.shut (H:Sound f):f.shut=false:=by
 unfold Ft.shut;rw[H.over,Bool.false_or,decide_eq_false_iff_not];have h4:aN 4 f.g.l=0:=by
  rcases Nat.eq_zero_or_pos (aN 4 f.g.l) with e|e;exact e;obtain⟨i,hi,hs⟩:=uW e;exact absurd hs (H.cg.J2 i (by rw[<-H.cg.len];exact hi))
 have:=H.fit.qE;unfold left;rw[h4];omega
structure U6 (f:Ft)(n:Nat)(b:List Nat)(f':Ft):Prop where
 len:b.length=f.c.S
 see:f'.see n=some (TP.bytes ⟨1,n,f.seq,f.aM⟩ b)
 uh:∀m,m≠n->f'.see m=f.see m
 like:l7 f f'
 seq:f'.seq=f.seq+1/\f'.aM=f.aM/\f'.text=f.text
 wJ:yh f->yh f'
def aeL (f:Ft)(n:Nat)(b:List Nat)(r:Int×Ft):Prop :=
 Sound r.2/\((r.1=0/\U6 f n b r.2)\/((r.1=40\/(r.1=1/\b.length≠f.c.S)\/(r.1=f.logical n/\f.logical n≠0))/\jl f r.2))
def PX (H:Sound f)(n:Nat){b:List Nat}(h3:1<=f.seq/\f.seq<4611686018427387904)(h4:1<=f.aM/\f.aM<4611686018427387904)(hb:∀y∈b,y<256) :
  ∃r,f.Cg n b=some r/\aeL f n b r:=by
 unfold Ft.Cg;by_cases hl:f.logical n=0;rw[if_neg (by simp[hl])];have hp:=H.fit.aB hl;by_cases hs:b.length=f.c.S;rw[if_neg (by simp[hs]),H.shut,if_neg ai];by_cases hf:MP.has f.now n=false/\f.cap<=f.used;rw[if_pos hf];exact⟨_,rfl,H,acm ⟨ack rfl,jl.refl f⟩⟩;rw[if_neg hf];obtain⟨⟨⟨p,e⟩,f2⟩,hput,hE⟩:=NF (aL:=1) (aB:=n) H (ack rfl) aa h3 h4 hb hs;rw[hput];dsimp only;rcases hE with⟨he,H2,K2⟩|⟨he,f1,H1,K1,N⟩;dsimp only at he H2 K2;subst he;rw[if_pos ag];exact⟨_,rfl,H2,acm ⟨ack rfl,K2⟩⟩;dsimp only at he N;subst he;rw[if_neg ai];have DD:f2.now=f1.now:=by rw[N.eq]
 have Jm:f2.gone=f1.gone:=by rw[N.eq]
 have hold:({ft.older f2 n with now:=MP.put f2.now n p,gone:=MP.del f2.gone n}:Ft)={f2 with g:=eB f2.g (MP.get f1.now n),now:=MP.put f1.now n p,gone:=MP.del f1.gone n}:=by
  rw[U5,DD,Jm]
 have hdel:∀m:Int,m≠n->MP.has (MP.del f1.gone n) m=MP.has f1.gone m:=λm hm=>by
  unfold MP.has;rw[MP.dO H1.fit.kQ.1,if_neg (λe=>hm e.symm)]
 refine⟨_,rfl,?_,ack ⟨rfl,?_⟩⟩;dsimp only;rw[hold];refine H1.enter N ⟨aa,aa⟩ (H1.fit.kQ.del _) (λm hm=>?_);by_cases e:m=n;subst e;unfold MP.has at hm;rw[MP.dO H1.fit.kQ.1,if_pos rfl]at hm;cases hm;rwa[hdel m e]at hm;dsimp only;rw[hold];refine⟨hs,?_,λm hm=>?_,?_,?_,λh0=>?_⟩;rw[H1.yj N n hdel,if_pos rfl];rw[H1.yj N n hdel,if_neg hm];exact K1.see m;have hL:=K1.like;refine hL.trans ⟨N.bI,by rw[N.eq];exact⟨rfl,rfl⟩,?_⟩;have hD:=oV N.cg (MP.get f1.now n) (λq hq=>by
  have h1:=H1.pos (s:=false) (n:=n) hq
  refine⟨h1.1,by rw[N.bI.1];exact h1.2.1,?_⟩
  rw[N.live]
  have:=h1.2.2
  omega)
 exact⟨hD.same.1.trans N.same.1,hD.same.2.1.trans N.same.2.1,hD.same.2.2.trans N.same.2.2⟩;have e1:f2.seq=f1.seq+1:=by rw[N.eq]
 have e2:f2.aM=f1.aM:=by rw[N.eq]
 have e3:f2.text=f1.text:=by rw[N.eq]
 exact⟨by show f2.seq=_;rw[e1,K1.num.2.2.2.1],by show f2.aM=_;rw[e2,K1.num.2.2.2.2],by show f2.text=_;rw[e3,K1.num.2.2.1]⟩;have:=K1.wJ h0;show MP.get (MP.put f1.now n p) 0=none;rw[MP.get_put,if_neg aa];exact this;rw[if_pos hs];exact⟨_,rfl,H,acm ⟨acm (ack ⟨rfl,hs⟩),jl.refl f⟩⟩;rw[if_pos hl];exact⟨_,rfl,H,acm ⟨acm (acm ⟨rfl,hl⟩),jl.refl f⟩⟩
structure U7 (f:Ft)(n:Nat)(f':Ft):Prop where
 sound:Sound f'
 see:f'.see n=none
 uh:∀m,m≠n->f'.see m=f.see m
 like:l7 f f'
 seq:f'.seq=f.seq/\f'.aM=f.aM/\f'.text=f.text
 wJ:yh f->yh f'
def wK (f:Ft)(n:Int):ft.drop1 f n={f with g:=eB f.g (MP.get f.now n),now:=MP.del f.now n}:=by
 unfold ft.drop1 eB;cases h:MP.get f.now n with
 |none=>rw[MP.qR h]
 |some p=>rfl
def Sound.dropped (H:Sound f)(n:Int):Sound (ft.drop1 f n)/\l7 f (ft.drop1 f n):=by
 rw[wK];have hD:=oV H.cg (MP.get f.now n) (λq hq=>by
  have h1:=H.pos (s:=false) (n:=n) hq
  exact⟨h1.1,h1.2.1,by have:=h1.2.2;omega⟩)
 have hsub:∀s m q,(({f with g:=eB f.g (MP.get f.now n),now:=MP.del f.now n}:Ft)).gM s m=some q->f.gM s m=some q:=λs m q h=>by
  unfold Ft.gM at h ⊢;cases s;simp only[afW,if_false]at h ⊢;rw[MP.dO H.Wm]at h;split at h;cases h;exact h;exact h
 refine⟨⟨⟨hD.cg.good,hD.cg.lL,H.fit.res,?_,H.fit.slow,H.fit.oG.del _,H.fit.kQ,H.fit.rz,H.fit.lC⟩,hD.cg,H.over,H.later,λs m q h=>H.place _ _ _ (hsub s m q h),λs m q s' m' h1 h2=>H.inj _ _ _ _ _ (hsub _ _ _ h1) (hsub _ _ _ h2),λj hj=>?_,H.gone⟩,⟨rfl,rfl,rfl⟩,⟨rfl,rfl⟩,hD.same⟩;show 0<=(eB f.g (MP.get f.now n)).aC/\(eB f.g (MP.get f.now n)).aC<=65535/\0<=(eB f.g (MP.get f.now n)).bad/\(eB f.g (MP.get f.now n)).bad<=65535;rw[hD.same.1,hD.same.2.1];exact H.fit.qE;have h1:=hD.live j;have h3:=H.live j hj;have h4:=Gr (n:=n) (j:=(j:Int)) H.Wm;rw[wI]at h3 ⊢
 show ((eB f.g (MP.get f.now n)).blk j).l=((ku f.bD j+ku (MP.del f.now n) j:Nat):Int);rw[h1,h3];omega
def Sound.abG (H:Sound f)(hG:ft.Low G)(hg:∀m,MP.has G m=true->MP.has f.bD m=true):Sound {f with gone:=G} :=
 ⟨⟨H.fit.good,H.fit.lL,H.fit.res,H.fit.qE,H.fit.slow,H.fit.oG,hG,H.fit.rz,H.fit.lC⟩,H.cg,H.over,H.later,H.place,H.inj,H.live,hg⟩
def Yi (H:Sound f)(n:Nat)(hl:f.logical n=0):(f.drop n).1=0/\U7 f n (f.drop n).2:=by
 have hp:=H.fit.aB hl;have hd:=drop_eq f n;obtain⟨H1,L1⟩:=H.dropped n;have hsm:=Be f n;have DD:(ft.drop1 f n).now=MP.del f.now n:=by rw[wK]
 have hc:(ft.drop1 f n).c=f.c:=by rw[wK]
 have QQ:(ft.drop1 f n).seq=f.seq/\(ft.drop1 f n).aM=f.aM/\(ft.drop1 f n).text=f.text:=by rw[wK];exact⟨rfl,rfl,rfl⟩
 rw[if_neg (by simp[hl])]at hd;have hent:∀m:Int,MP.get (MP.del f.now n) m=if (n:Int)=m then none else MP.get f.now m:=λm=>MP.dO H.Wm _ _
 have h00:yh f->MP.get (MP.del f.now n) 0=none:=λh0=>by rw[hent,if_neg aa];exact h0
 cases hs:MP.get f.bD n with
 |some p =>
  rw[hs]at hd;dsimp only at hd;rw[hd];have hg:∀m:Int,MP.has (MP.put f.gone n p) m=if (n:Int)=m then true else MP.has f.gone m:=λm=>by
   unfold MP.has;rw[MP.get_put];split<;>rfl
  refine⟨rfl,H1.abG (H.fit.kQ.put ⟨aa,aa⟩ _) (λm hm=>?_),?_,λm hm=>?_,L1.trans ⟨⟨rfl,rfl,rfl⟩,⟨rfl,rfl⟩,⟨rfl,rfl,rfl⟩⟩,QQ,λh0=>?_⟩;rw[hsm.1];rw[hg]at hm;split at hm;rename_i e;rw[<-e];unfold MP.has;rw[hs];rfl;exact H.gone m hm;unfold Ft.see Ft.at_;dsimp only;rw[DD,hent,if_pos rfl];dsimp only;rw[hg,if_pos rfl];rfl;unfold Ft.see Ft.at_;dsimp only;have hg':MP.has (MP.put f.gone n p) m=MP.has f.gone m:=by
   rw[hg];exact if_neg aa
  rw[DD,hent,if_neg aa,hg',hsm.1,hc];show MP.get (ft.drop1 f n).now 0=none;rw[DD];exact h00 h0
 |none =>
  rw[hs]at hd;dsimp only at hd;rw[hd];refine⟨rfl,H1,?_,λm hm=>?_,L1,QQ,λh0=>?_⟩;unfold Ft.see Ft.at_;rw[DD,hent,if_pos rfl,hsm.1,hsm.2];dsimp only;rw[hs];split<;>rfl;unfold Ft.see Ft.at_;rw[DD,hent,if_neg aa,hsm.1,hsm.2,hc];show MP.get (ft.drop1 f n).now 0=none;rw[DD];exact h00 h0
end
variable{n:Int}{q:cB}{L:Mp cB}
def Ft.sl (f:Ft)(s:Sl)(L:Mp cB):Ft:={f with g:=s.g,bD:=s.bD,now:=L,gone:=s.gone}
def iY (s:Sl)(x:Int×cB):s.take x=⟨eB s.g (MP.get s.bD x.1),MP.put s.bD x.1 x.2,MP.del s.gone x.1⟩:=by
 unfold Sl.take eB;cases MP.get s.bD x.1<;>rfl
variable{x:Int×cB}
def NH (h:MP.Ok (x::L)):MP.Ok L:=(aaL.1 h).2
def wL :MP.get (x::L) x.1=some x.2:=by unfold MP.get;rw[if_pos rfl]
def kJ (h:MP.Ok (x::L)):MP.get L x.1=none:=MP.get_none.2 (λy hy e=>by have:=(aaL.1 h).1 y hy;omega)
def wM {m:Int}(e:m≠x.1):MP.get (x::L) m=MP.get L m:=by rw[MP.get,if_neg (λh=>e h.symm)]
def Sound.take {s:Sl}(H:Sound (f.sl s (x::L))):Sound (f.sl (s.take x) L)/\(∀m,(f.sl (s.take x) L).see m=(f.sl s (x::L)).see m)/\l7 (f.sl s (x::L)) (f.sl (s.take x) L):=by
 have hok:MP.Ok (x::L):=H.Wm;have LC:MP.Ok s.bD:=H.sok;have abH:MP.Ok s.gone:=H.fit.kQ.1;have hD:=oV (c:=f.c) (g:=s.g) H.cg (MP.get s.bD x.1) (λq hq=>by
  have h1:=H.pos (s:=true) (n:=x.1) (q:=q) hq
  exact⟨h1.1,h1.2.1,by have h2:=h1.2.2;show (s.g.blk q.block.toNat).l≠0;have h3:1<=(s.g.blk q.block.toNat).l:=h2;omega⟩)
 have U8:∀t m,(f.sl s (x::L)).gM t m=MP.get (if t then s.bD else x::L) m:=λt m=>rfl
 have hent:∀t m q,(f.sl (s.take x) L).gM t m=some q->(f.sl s (x::L)).gM (if t=true/\m=x.1 then false else t) m=some q/\(m=x.1->t=true):=λt m q h=>by
  have h':MP.get (if t then (s.take x).bD else L) m=some q:=h;rw[iY]at h';cases t;simp only[afW,if_false]at h';have hm:m≠x.1:=λe=>by rw[e,kJ hok]at h';cases h'
  rw[if_neg ai,U8];simp only[afW,if_false];exact⟨by rw[wM hm];exact h',λe=>absurd e hm⟩;simp only[if_true]at h';rw[MP.get_put]at h';by_cases e:x.1=m;rw[if_pos e]at h';subst e;rw[if_pos ⟨rfl,rfl⟩,U8];simp only[afW,if_false];exact⟨by rw[wL];exact h',λ_=>by trivial⟩;rw[if_neg e]at h';rw[if_neg (λh=>e h.2.symm),U8];simp only[if_true];exact⟨h',λ_=>by trivial⟩
 have hx:=H.fit.oG.2 x (by show x∈x::L;simp);refine⟨⟨⟨hD.cg.good,?_,H.fit.res,?_,?_,⟨NH hok,λy hy=>H.fit.oG.2 y (List.mem_cons_of_mem _ hy)⟩,?_,H.fit.rz,H.fit.lC⟩,?_,H.over,H.later,λt m q h=>H.place _ _ _ (hent t m q h).1,?_,?_,?_⟩,?_,⟨⟨rfl,rfl,rfl⟩,⟨rfl,rfl⟩,?_⟩⟩;show (s.take x).g.ok f.c;rw[iY];exact hD.cg.lL;show 0<=(s.take x).g.aC/\(s.take x).g.aC<=65535/\0<=(s.take x).g.bad/\(s.take x).g.bad<=65535;rw[iY];dsimp only;rw[hD.same.1,hD.same.2.1];exact H.fit.qE;show ft.Low (s.take x).bD;rw[iY];exact(show ft.Low s.bD from H.fit.slow).put hx _;show ft.Low (s.take x).gone
 rw[iY];exact(show ft.Low s.gone from H.fit.kQ).del _;show CG f.c (s.take x).g;rw[iY];exact hD.cg;intro t m q t' m' h1 h2;obtain⟨a1,b1⟩:=hent _ _ _ h1;obtain⟨a2,b2⟩:=hent _ _ _ h2;obtain⟨c1,c2⟩:=H.inj _ _ _ _ _ a1 a2;refine⟨?_,c2⟩;subst c2;by_cases e:m=x.1;rw[b1 e,b2 e];rw[if_neg (λh=>e h.2),if_neg (λh=>e h.2)]at c1;exact c1;intro j hj;have h1:=hD.live j;have h3:=H.live j hj;have h4:=ND (n:=x.1) (j:=(j:Int)) (p:=x.2) LC;have h5:=tN x L j;rw[wI]at h3 ⊢;have h3':(s.g.blk j).l=((ku s.bD j+ku (x::L) j:Nat):Int):=h3;show ((s.take x).g.blk j).l=((ku (s.take x).bD j+ku L j:Nat):Int)
 rw[iY];dsimp only;rw[h1,h3'];omega;intro m hm;have hm':MP.has (s.take x).gone m=true:=hm;show MP.has (s.take x).bD m=true;rw[iY]at hm' ⊢;unfold MP.has at hm' ⊢;dsimp only at hm' ⊢;rw[MP.get_put];split;rfl;rename_i e;rw[MP.dO abH,if_neg e]at hm';exact H.gone m hm'
 ·intro m;have hc:(f.sl (s.take x) L).c=(f.sl s (x::L)).c:=rfl;unfold Ft.see;rw[nU,nU,hc];congr 1;have e1:(f.sl (s.take x) L).gM false m=MP.get L m:=rfl;have e2:(f.sl (s.take x) L).gM true m=MP.get (s.take x).bD m:=rfl;have e3:(f.sl s (x::L)).gM false m=MP.get (x::L) m:=rfl;have e4:(f.sl s (x::L)).gM true m=MP.get s.bD m:=rfl;have e5:(f.sl (s.take x) L).gone=(s.take x).gone:=rfl;have e6:(f.sl s (x::L)).gone=s.gone:=rfl;rw[e1,e2,e3,e4,e5,e6,iY];dsimp only;by_cases e:(m:Int)=x.1;rw[e,kJ hok,wL];dsimp only;unfold MP.has;rw[MP.dO abH,if_pos rfl,MP.get_put,if_pos rfl]
  rfl;rw[wM e];cases MP.get L m with
  |some q=>rfl
  |none =>
   have e7:MP.get (MP.del s.gone x.1) m=MP.get s.gone m:=(MP.dO abH _ _).trans (if_neg (λh=>e h.symm));have e8:MP.get (MP.put s.bD x.1 x.2) m=MP.get s.bD m:=(MP.get_put _ _ _ _).trans (if_neg (λh=>e h.symm));dsimp only;unfold MP.has;rw[e7,e8]
 show (s.take x).g.aC=s.g.aC/\(s.take x).g.bad=s.g.bad/\(s.take x).g.even=s.g.even;rw[iY];exact hD.same
def Sound.takes:∀(L:Mp cB) (s:Sl),Sound (f.sl s L)->Sound (f.sl (L.foldl Sl.take s) [])/\(∀m,(f.sl (L.foldl Sl.take s) []).see m=(f.sl s L).see m)/\l7 (f.sl s L) (f.sl (L.foldl Sl.take s) [])
 |[],s,H=>⟨H,λ_=>rfl,l7.refl _⟩
 |x::L,s,H=>by
  obtain⟨h1,h2,h3⟩:=Sound.take H
  obtain⟨k1,k2,k3⟩:=Sound.takes L _ h1
  exact⟨k1,λm=>(k2 m).trans (h2 m),h3.trans k3⟩
def Ft.st (f:Ft)(s:Sl)(G:Mp cB):Ft:={f with g:=s.g,bD:=s.bD,now:=[],gone:=G}
def Sound.strike {s:Sl}(H:Sound (f.st s (x::L))):Sound (f.st (s.strike x) L)/\(∀m,(f.st (s.strike x) L).see m=(f.st s (x::L)).see m)/\l7 (f.st s (x::L)) (f.st (s.strike x) L):=by
 have hok:MP.Ok (x::L):=H.fit.kQ.1;have LC:MP.Ok s.bD:=H.sok;have hin:MP.has s.bD x.1=true:=H.gone x.1 (by show MP.has (x::L) x.1=true;unfold MP.has;rw[wL];rfl);obtain⟨old,hold⟩:∃old,MP.get s.bD x.1=some old:=by
  unfold MP.has at hin;exact Option.isSome_iff_exists.1 hin
 have hdef:s.strike x=⟨eB s.g (MP.get s.bD x.1),MP.del s.bD x.1,s.gone⟩:=by
  unfold Sl.strike eB;rw[hold];rfl
 have hD:=oV (c:=f.c) (g:=s.g) H.cg (MP.get s.bD x.1) (λq hq=>by
  have h1:=H.pos (s:=true) (n:=x.1) (q:=q) hq
  exact⟨h1.1,h1.2.1,by have h2:=h1.2.2;show (s.g.blk q.block.toNat).l≠0;have h3:1<=(s.g.blk q.block.toNat).l:=h2;omega⟩)
 have hent:∀t m q,(f.st (s.strike x) L).gM t m=some q->(f.st s (x::L)).gM t m=some q:=λt m q h=>by
  have h':MP.get (if t then (s.strike x).bD else []) m=some q:=h;show MP.get (if t then s.bD else []) m=some q;rw[hdef]at h';cases t;exact h';simp only[if_true]at h' ⊢;rw[MP.dO LC]at h';split at h';cases h';exact h'
 refine⟨⟨⟨hD.cg.good,?_,H.fit.res,?_,?_,H.fit.oG,⟨NH hok,λy hy=>H.fit.kQ.2 y (List.mem_cons_of_mem _ hy)⟩,H.fit.rz,H.fit.lC⟩,?_,H.over,H.later,λt m q h=>H.place _ _ _ (hent t m q h),λt m q t' m' h1 h2=>H.inj _ _ _ _ _ (hent _ _ _ h1) (hent _ _ _ h2),?_,?_⟩,?_,⟨⟨rfl,rfl,rfl⟩,⟨rfl,rfl⟩,?_⟩⟩;show (s.strike x).g.ok f.c;rw[hdef];exact hD.cg.lL;show 0<=(s.strike x).g.aC/\(s.strike x).g.aC<=65535/\0<=(s.strike x).g.bad/\(s.strike x).g.bad<=65535;rw[hdef];dsimp only;rw[hD.same.1,hD.same.2.1];exact H.fit.qE;show ft.Low (s.strike x).bD;rw[hdef];exact(show ft.Low s.bD from H.fit.slow).del _
 show CG f.c (s.strike x).g;rw[hdef];exact hD.cg;intro j hj;have h1:=hD.live j;have h3:=H.live j hj;have h4:=Gr (n:=x.1) (j:=(j:Int)) LC;rw[wI]at h3 ⊢;have h3':(s.g.blk j).l=((ku s.bD j+ku [] j:Nat):Int):=h3;show ((s.strike x).g.blk j).l=((ku (s.strike x).bD j+ku [] j:Nat):Int);rw[hdef];dsimp only;rw[h1,h3'];omega;intro m hm;have hm':MP.has L m=true:=hm;show MP.has (s.strike x).bD m=true;rw[hdef];unfold MP.has;dsimp only;have hne:x.1≠m:=λe=>by
  unfold MP.has at hm';rw[<-e,kJ hok]at hm';cases hm'
 rw[MP.dO LC,if_neg hne];refine H.gone m ?_;show MP.has (x::L) m=true;unfold MP.has at hm' ⊢;rw[wM (λe=>hne e.symm)];exact hm'
 ·intro m;have hc:(f.st (s.strike x) L).c=(f.st s (x::L)).c:=rfl;unfold Ft.see;rw[nU,nU,hc];congr 1;have e2:(f.st (s.strike x) L).gM true m=MP.get (s.strike x).bD m:=rfl;have e4:(f.st s (x::L)).gM true m=MP.get s.bD m:=rfl;have e5:(f.st (s.strike x) L).gone=L:=rfl;have e6:(f.st s (x::L)).gone=x::L:=rfl;show (if MP.has (f.st (s.strike x) L).gone m=true then none else (f.st (s.strike x) L).gM true m)=(if MP.has (f.st s (x::L)).gone m=true then none else (f.st s (x::L)).gM true m);rw[e2,e4,e5,e6,hdef];dsimp only;unfold MP.has;by_cases e:(m:Int)=x.1;have e7:MP.get (MP.del s.bD x.1) m=none:=(MP.dO LC _ _).trans (if_pos e.symm)
  rw[e7,e,wL,kJ hok];rfl;have e7:MP.get (MP.del s.bD x.1) m=MP.get s.bD m:=(MP.dO LC _ _).trans (if_neg (λh=>e h.symm));rw[e7,wM e]
 show (s.strike x).g.aC=s.g.aC/\(s.strike x).g.bad=s.g.bad/\(s.strike x).g.even=s.g.even;rw[hdef];exact hD.same
def Sound.strikes:∀(G:Mp cB) (s:Sl),Sound (f.st s G)->Sound (f.st (G.foldl Sl.strike s) [])/\(∀m,(f.st (G.foldl Sl.strike s) []).see m=(f.st s G).see m)/\l7 (f.st s G) (f.st (G.foldl Sl.strike s) [])
 |[],s,H=>⟨H,λ_=>rfl,l7.refl _⟩
 |x::L,s,H=>by
  obtain⟨h1,h2,h3⟩:=Sound.strike H
  obtain⟨k1,k2,k3⟩:=Sound.strikes L _ h1
  exact⟨k1,λm=>(k2 m).trans (h2 m),h3.trans k3⟩
structure U9 (f:Ft)(text:List Nat)(f':Ft):Prop where
 len:(text.length:Int)=f.c.S-8
 see:∀m,m≠0->f'.see m=f.see m
 like:l7 f f'
 seq:f'.seq=f.seq+1/\f'.aM=f.aM+1/\f'.text=text
 now:f'.now=[]/\f'.gone=[]
def aeM (f:Ft)(text:List Nat)(r:Int×Ft):Prop :=
 Sound r.2/\((r.1=0/\U9 f text r.2)\/((r.1=40\/(r.1=1/\(text.length:Int)≠f.c.S-8))/\jl f r.2))
variable{text:List Nat}
def Va {aC bad:Int}:(jJ aC bad text).length=text.length+8:=by
 unfold jJ;simp
def Jp {aC bad:Int}(h:∀y∈text,y<256):∀y∈jJ aC bad text,y<256:=by
 unfold jJ;intro y hy;rcases List.mem_append.1 hy with hy|hy;simp only[List.mem_cons,List.not_mem_nil,or_false]at hy;rcases hy with rfl|rfl|rfl|rfl|rfl|rfl|rfl|rfl<;>omega;exact h y hy
def Ck (H:Sound f)(h0:yh f)(h3:1<=f.seq/\f.seq<4611686018427387904)(h4:1<=f.aM/\f.aM<4611686018427387904)(hb:∀y∈text,y<256) :
  ∃r,f.agt text=some r/\aeM f text r:=by
 unfold Ft.agt;have hrd:f.ready=0:=by unfold Ft.ready;rw[H.cg.up];rfl
 rw[if_neg (by simp[hrd])];by_cases hs:(text.length:Int)=f.c.S-8;rw[if_neg (by simp[hs]),H.shut,if_neg ai];have hd:=H.cg.bI;obtain⟨⟨⟨p,e⟩,f2⟩,hput,hE⟩:=NF (aL:=2) (aB:=0) (b:=jJ f.aC f.bad text) H (acm rfl) aa h3 h4 (Jp hb) (by rw[Va];omega);rw[hput];dsimp only;rcases hE with⟨he,H2,K2⟩|⟨he,f1,H1,K1,N⟩;dsimp only at he H2 K2;subst he;rw[if_pos ag];exact⟨_,rfl,H2,acm ⟨ack rfl,K2⟩⟩;dsimp only at he N;subst he;rw[if_neg ai];have h01:MP.get f1.now 0=none:=K1.wJ h0;have hF:=H1.enter N (n:=0) ⟨aa,aa⟩ (G:=f1.gone) H1.fit.kQ (λm hm=>hm)
 have hS:=H1.yj (G:=f1.gone) N 0 (λm _=>rfl);have anJ:f2.bD=f1.bD:=by rw[N.eq]
 have DD:f2.now=f1.now:=by rw[N.eq]
 have Jm:f2.gone=f1.gone:=by rw[N.eq]
 have hd0:eB f2.g (MP.get f1.now 0)=f2.g:=by rw[h01];rfl
 rw[hd0]at hF;rw[show MP.get f1.now ((0:Nat):Int)=none from h01]at hS;have hF0:({f2 with g:=f2.g,now:=MP.put f1.now 0 p,gone:=f1.gone}:Ft)=f2.sl ⟨f2.g,f2.bD,f2.gone⟩ (MP.put f2.now 0 p):=by
  unfold Ft.sl;rw[DD,Jm]
 rw[hF0]at hF;have hS':∀m,m≠0->(f2.sl ⟨f2.g,f2.bD,f2.gone⟩ (MP.put f2.now 0 p)).see m=f.see m:=λm hm=>by
  have h1:=hS m;rw[if_neg hm]at h1;have h2:({f2 with g:=eB f2.g none,now:=MP.put f1.now ((0:Nat):Int) p,gone:=f1.gone}:Ft)=f2.sl ⟨f2.g,f2.bD,f2.gone⟩ (MP.put f2.now 0 p):=hF0;rw[<-h2,h1];exact K1.see m
 obtain⟨t1,t2,t3⟩:=Sound.takes _ _ hF;have hst:f2.sl ((MP.put f2.now 0 p).foldl Sl.take ⟨f2.g,f2.bD,f2.gone⟩) []=f2.st ((MP.put f2.now 0 p).foldl Sl.take ⟨f2.g,f2.bD,f2.gone⟩) ((MP.put f2.now 0 p).foldl Sl.take ⟨f2.g,f2.bD,f2.gone⟩).gone:=rfl;rw[hst]at t1 t2 t3;obtain⟨k1,k2,k3⟩:=Sound.strikes _ _ t1;have hlk:l7 f (f2.st (((MP.put f2.now 0 p).foldl Sl.take ⟨f2.g,f2.bD,f2.gone⟩).gone.foldl Sl.strike ((MP.put f2.now 0 p).foldl Sl.take ⟨f2.g,f2.bD,f2.gone⟩)) []):=by
  refine K1.like.trans (l7.trans (f':=f2.sl ⟨f2.g,f2.bD,f2.gone⟩ (MP.put f2.now 0 p)) ⟨N.bI,?_,N.same⟩ (t3.trans k3));show f2.aC=_/\f2.bad=_;rw[N.eq];exact⟨rfl,rfl⟩
 have QQ:f2.seq=f.seq+1/\f2.aM=f.aM:=by
  rw[N.eq];exact⟨by show f1.seq+1=_;rw[K1.num.2.2.2.1],K1.num.2.2.2.2⟩
 have htl:text.length<=1000:=by
  have h5:=H.cg.good.ok.right;unfold NP.bH at h5;simp only[ac8,ae5,beq_iff_eq,decide_eq_true_eq]at h5;omega
 refine⟨_,rfl,?_,ack ⟨rfl,hs,λm hm=>?_,?_,⟨QQ.1,?_,rfl⟩,rfl,rfl⟩⟩;exact⟨⟨k1.fit.good,k1.fit.lL,k1.fit.res,k1.fit.qE,k1.fit.slow,k1.fit.oG,k1.fit.kQ,k1.fit.rz,htl⟩,k1.cg,k1.over,k1.later,k1.place,k1.inj,k1.live,k1.gone⟩;exact((k2 m).trans (t2 m)).trans (hS' m hm);exact⟨hlk.bI,hlk.num,hlk.mgr⟩;show f2.aM+1=_;rw[QQ.2];rw[if_pos hs];exact⟨_,rfl,H,acm ⟨acm ⟨rfl,hs⟩,jl.refl f⟩⟩
end FP
namespace ft
open RowKit mgr
variable{aA:Nat}{w:acL}{f:Nat}{X:dm}
def LD (l:List Nat)(b o n c b' o' c':Nat)(hl:l.length=n)(hn:n<=1000000)(h:bE w (some ⟨b,o,none⟩) l)(h':bE w (some ⟨b',o',none⟩) l):ac4 prog 245 #[aco (some ⟨b,o,none⟩) n c,aco (some ⟨b',o',none⟩) n c'] w λe w'=>e=ab4 (.bool true)/\acN w.heap.size w w':=by
 have HR:=az h;have HR':=az h';have HL:=az hl;clear h h' hl;go_in;go_wp2_with fail;go_loopw [13] (λi wr=>∃k:Nat,k<=n/\i=vi k/\Hid (acN w.heap.size w wr)) (λi _=>n-(intOf i).toNat)
 case atStart=>exact⟨0,Nat.zero_le _,rfl,az ak⟩
 case round =>
  obtain⟨k,hk,rfl,hb⟩:=hrel;by_cases h16:k<n
  ·obtain⟨_,_,he,hx,_⟩:=(HR.o.below hb.o).lookup (k:=k) (by rw[HL.o];exact h16);cases he;obtain⟨_,_,he,hx',_⟩:=(HR'.o.below hb.o).lookup (k:=k) (by rw[HL.o];exact h16);cases he;have n16:(k:Int)<(n:Int):=aa;have n0:(0:Int)<=(k:Int):=aa;generalize l.getD k 0=y at*;have HB:=hb;have HK:=az h16;clear hb hk h16;go_wp2_with fail;have hx:=Sub.cell hx;have hx':=Sub.cell hx';have hyy:((y:Int) != (y:Int))=false:=ai;refine aZ ah ah ?_;repeat (go_big_quiet_step (fail))
   refine wpQuiet_nil ?_;rintro _ ⟨nq,rfl⟩;have HB2:=az (HB.o.trans (nq.below.mono HB.o.size));clear hx hx' HB;generalize nq.w=w2 at*;have r2:adk.wrap ((k:Int)+1)=((k+1:Nat):Int):=by rw[adl _ aa];omega
   go_wp2;go_roundw
   case rel=>exact⟨k+1,HK.o,by first|rfl|go_num,HB2⟩
   case measure=>have:=HK.o;simp[intOf];omega
  obtain rfl:k=n:=aa;have n16:¬(k:Int)<(k:Int):=aa;clear hk h16;go_wp2;go_ret;exact⟨rfl,hb.o⟩
variable{F V:FP.Ft}
def zf {l:List Nat}{p:FP.cB}(h:F.copied l=some (p,V)):(Mg.program l F.c F.g).1.2.2=0/\p=⟨(Mg.program l F.c F.g).1.1,(Mg.program l F.c F.g).1.2.1⟩ /\
  (NP.bQ (Mg.program l F.c F.g).2.1 p.block p.aB).1=(l,0)/\V={F with c:=(NP.bQ (Mg.program l F.c F.g).2.1 p.block p.aB).2,g:=(Mg.program l F.c F.g).2.2}:=by
 unfold FP.Ft.copied at h;dsimp only at h;split at h;cases h;rename_i h1;split at h;cases h;rename_i h2;simp only[Option.some.injEq,Prod.mk.injEq]at h;obtain⟨rfl,rfl⟩:=h;refine⟨ad2 h1,rfl,?_,rfl⟩;have h3:=not_or.1 h2;exact Prod.ext (ad2 h3.2) (ad2 h3.1)
def abI (aA:Nat)(w:acL)(f:Nat)(X:dm)(p:FP.cB)(V:FP.Ft)(e:Ending)(w':acL):Prop :=
 ∃X',e=ab4 (adg #[dz p,vi 0])/\aQ aA w f X w' X'/\X'.view=V/\X'.bs=X.bs/\X'.bn=X.bn/\X'.bg=X.bg
def DI {w':acL}{g:Nat}{v0 v1:acK}{n:Int}(hb:aD w' g 165 #[v0,v1])(tmps:Array acK)(h2:tmps[4]?=some (.pointer (some ⟨g,0,none⟩)))(h4:tmps[5]?=some (vi n)) :
  (results Tryz.f216 tmps).run prog w'=.ok (adg #[.agg #[v0,v1],vi n]) w':=by
 have g0:w'.cell? ⟨g,0,none⟩=some v0:=hb.cell 0;have g1:w'.cell? ⟨g,1,none⟩=some v1:=hb.cell 1;simp only[results,results216];simp[go_sem,h2,h4,g0,g1]
def LF (h:bP aA w f X)(hG:gW X.M.view)(hK:X.G.view.ok X.M.view)(a:Option Addr)(l:List Nat)(c:Nat)(hr:dx aA w a l)(hl:0<l.length/\l.length<=900000)(p:FP.cB)(V:FP.Ft)(hq:X.view.copied l=some (p,V))(hbase:aA<=w.heap.size) :
  ac4 prog 216 #[ptr f,aco a l.length c] w (abI aA w f X p V):=by
 obtain⟨q1,q2,q3,q4⟩:=zf hq;dsimp only[dm.view]at q1 q2 q3;have Wn:=az q4;dsimp only[dm.view]at Wn;have F0:Hid (aD (w.alloc (ach #[vi 0,vi 0] 165)) w.heap.size 165 #[vi 0,vi 0]):=az (aD.new _ _ _);have HB:Hid (acN w.heap.size w (w.alloc (ach #[vi 0,vi 0] 165))):=az ax;have H0:=az h;have H:=az (h.old HB.o);have HX:=az hG;have lM:=az hK;have HR:=az (hr.old HB.o);have HL:=az hl;clear h hG hK hr hq q4 hl;go_in;go_upto_region 1 with fail;generalize w.alloc (ach #[vi 0,vi 0] 165)=w0 at*;have c1:w0.cell? ⟨f,1,none⟩=some (ptr X.m):=H.o.obj.cell 1
 have HP:=az (mgr.nC H.o.held HX.o.ok lM.o a l c HR.o);have Xz:Hid (fI (λ_=>False) X.M.view (Mg.program l X.M.view X.G.view).2.1):=az (kC (g:=X.G.view) HR.o.row.small);change Hid (ac4 _ _ _ _ (qh aA w0 X.m X.G X.M (Mg.program l X.M.view X.G.view))) at HP;generalize Mg.program l X.M.view X.G.view=r at*;obtain⟨⟨x,y,z⟩,U,g'⟩:=r;dsimp only at q1 q2 q3 Wn Xz;subst q1 q2;dsimp only at q3 Wn;have aiY:=az q3;clear q3;go_loop [8] (λ_=>True) (λ_=>0)
 case atStart=>trivial
 case round =>
  go_wp2_with fail;refine HP.o.mono ?_;rintro e w1 ⟨M2,rfl,hg,hv⟩;have hgo:=H.o.goes hg;have Ky:∀n,X.foot f n->n<w.heap.size:=H0.o.lt;have F1:=az (F0.o.aJ hgo.aJ (λe=>by have:=Ky _ e;omega));have HG:=az (aQ.ahead H0.o HB.o hgo);have HVV:=az hv;have HF:Hid (∀n,{X with G:=X.G.lay g',M:=M2:dm}.foot f n->n≠w.heap.size):=az (λn e e2=>by
   rcases hgo.foot n e with h1|h1
   have:=Ky _ h1;omega
   have:=F0.o.lt;omega)
  have HR1:=az (HR.o.fD hgo.aJ H.o.loose);clear hg hv hgo Ky HP c1;have c0:w1.cell? ⟨f,0,none⟩=some (ptr X.G.k):=HG.o.at_.obj.cell 0;have bK:=az (_root_.Go.Proofs.YtllmbcigmimgoaaGreat.Read_any HG.o.at_.held.aW (by rw[HVV.o];exact(Xz.o.good HX.o).ok) x y);go_wp2_with fail;refine bK.o.mono ?_;rw[HVV.o];rintro e w2 ⟨v2,M3,rfl,ho2,hg2,hv2⟩;rw[aiY.o]at ho2 ⊢;dsimp only at ho2 ⊢;have Jq:=HG.o.at_.jG hg2;have HG2:=az (HG.o.trans Jq);have hne2:¬({X with G:=X.G.lay g',M:=M2:dm}).foot f w.heap.size:=λe=>HF.o _ e rfl
  have F2:=az (F1.o.aJ Jq.aJ hne2);have HR2:=az (HR1.o.fD Jq.aJ HG.o.at_.loose);have Jr:=az hv2;have vK:Hid (∀n,{X with G:=X.G.lay g',M:=M3:dm}.foot f n->n≠w.heap.size):=az (λn e e2=>by
   rcases Jq.foot n e with h1|h1
   exact HF.o n h1 e2
   have:=F1.o.lt;omega)
  have hsm:=HR.o.row.small;obtain⟨a2,k2,rfl,hs2,hl2,hc2,hnn⟩:=ho2.Db (aA:=aA) hsm;have HS2:=az hs2.row;obtain⟨b,o,hab⟩:∃b o,a=some ⟨b,o,none⟩:=by
   rcases HR.o.safe with e|⟨b,o,e,_⟩;have:=HL.o.1;rw[e]at this;simp at this;exact⟨b,o,e⟩
  obtain⟨b2,o2,abn⟩:∃b o,a2=some ⟨b,o,none⟩:=by
   rcases hs2.safe with e|⟨b,o,e,_⟩;have:=HL.o.1;rw[e]at this;simp at this;exact⟨b,o,e⟩
  subst hab abn;have HEQ:=az (LD l b o l.length c b2 o2 k2 rfl (by have:=HL.o.2;omega) HR2.o.row HS2.o);clear Jq hne2 hs2 hg2 hv2 ho2 hsm hl2 hc2 hnn bK c0 HG F1 HR1;generalize l.length=n at*;go_wp2_with fail;refine HEQ.o.mono ?_;rintro e w3 ⟨rfl,hb3⟩;have F3:=az (F2.o.old hb3);have iR:=az (HG2.o.old hb3);clear hb3 HEQ;obtain⟨d0,d1,f0,f1⟩:=bO F3.o;go_wp2_with fail;have hset:aP (λn=>n=w.heap.size) w3 ((w3.setCell ⟨w.heap.size,0,none⟩ (vi x)).setCell ⟨w.heap.size,1,none⟩ (vi y)):=((aP.refl (λn=>n=w.heap.size) w3).setCell (p:=⟨w.heap.size,0,none⟩) (ack rfl) _).setCell (p:=⟨w.heap.size,1,none⟩) (ack rfl) _
  refine bodyPost_ret (DI ((F3.o.bB 0 (vi x)).bB 1 (vi y)) _ rfl rfl) rfl ⟨_,rfl,iR.o.iT ?_ ?_,?_,rfl,rfl,rfl⟩;exact⟨hset.os,hset.tape,hset.output,hset.size,λk hk=>hset.block k (Nat.lt_of_lt_of_le hk iR.o.size) aa⟩;exact iR.o.at_.aJ hset (λn e=>by subst e;exact Loose.blk hbase F3.o) (λn e e2=>vK.o n e e2);rw[Wn.o,<-Jr.o]
variable{k:Int}
def PY (h:F.Gm k=some V):(F.g.erase F.c k).1=0/\V={F with c:=(F.g.erase F.c k).2.1,g:=(F.g.erase F.c k).2.2,later:=F.later.set k.toNat false}:=by
 unfold FP.Ft.Gm at h;dsimp only at h;split at h;rename_i h0;simp only[Option.some.injEq]at h;exact⟨h0,h.symm⟩;cases h
def bP.Vb (h:bP aA w f X)(k:Nat)(b:Bool):aQ aA w f X (w.setCell ⟨X.lg,k,none⟩ (.bool b)) {X with later:=X.later.set k b}:=by
 have q:aP (λn=>n=X.lg) w (w.setCell ⟨X.lg,k,none⟩ (.bool b)):=aP.set (F:=λn=>n=X.lg) w (p:=⟨X.lg,k,none⟩) rfl _;have hl:∀n,n=X.lg->Loose aA w n:=λn e=>h.loose n (acm (acm (acm (acm (ack e)))))
 refine⟨⟨?_,h.held.fD q hl (λn e e2=>h.Im (e2▸e)),h.text.fD q hl,h.lC,h.bD.aJ q (h.gY h.bD).2.1,h.now.aJ q (h.gY h.now).2.1,h.gone.aJ q (h.gY h.gone).2.1,?_,h.low,h.ne⟩,q.mono (λn _ e=>acm (acm (acm (acm (ack e))))),λn e=>ack e,rfl,rfl⟩;have h1:=h.obj.aJ q h.nQ.2.2.2.1;simpa[dm.cs] using h1;have h1:=h.later.set k (.bool b);dsimp only;rw[List.length_set,List.map_set];exact h1
def Vd (h:bP aA w f X)(hx:X.Fit)(k:Nat)(hk:k<X.M.B)(V:FP.Ft)(hq:X.view.Gm k=some V) :
  ac4 prog 197 #[ptr f,vi k] w λe w'=>∃X',e=ab4 (vi 0)/\aQ aA w f X w' X'/\X'.view=V:=by
 obtain⟨q1,q2⟩:=PY hq;rw[acW]at q2;have HQ:=az q2;dsimp only[dm.view]at HQ q1;have H:=az h;have Kj:=az hx.rz;have HKB:=az hk;have c1:w.cell? ⟨f,1,none⟩=some (ptr X.m):=h.obj.cell 1;have HE:=az (mgr.sJ h.held hx.good.ok k);change Hid (ac4 _ _ _ _ (ow aA w X.m X.G X.M (Mg.erase X.M.view X.G.view k))) at HE;generalize Mg.erase X.M.view X.G.view k=r at*;obtain⟨z,U,g'⟩:=r;dsimp only at q1 HQ;subst q1;clear h hx hq q2 hk;go_in;go_wp2_with fail;refine HE.o.mono ?_;rintro e w1 ⟨M1,rfl,hg,hv⟩;have hgo:=H.o.goes hg;have HG:=az hgo;have HV:=az hv
 clear hg hv hgo c1 HE;have c10:w1.cell? ⟨f,10,none⟩=some (aco (some ⟨X.lg,0,none⟩) X.later.length X.lc):=HG.o.at_.obj.cell 10;have hkl:k<X.later.length:=by rw[Kj.o];exact HKB.o
 have n1:(k:Int)<(X.later.length:Int):=aa;have cb:w1.cell? ⟨X.lg,k,none⟩=some (.bool (X.later[k])):=by
  have h1:=HG.o.at_.later.cell (j:=k) (by simpa using hkl);rw[h1];simp[hkl]
 have fb:=HG.o.at_.later.frozen k;dsimp only at fb;generalize X.later[k]=bk at*;go_wp2;go_ret;have hs:=HG.o.at_.Vb k false;refine⟨_,rfl,HG.o.trans hs,?_⟩;rw[HQ.o,<-HV.o]
def uY (bs bn:Nat)(h:FP.Hd):List acK:=[.map (some (if h.sl then bs else bn)),.int .u32 h.aB,vi h.at_.block,vi h.at_.aB]
def wN (bs bn:Nat)(h:FP.Hd):(uY bs bn h).length=4:=rfl
def PZ:(prog.info? 251).map (λi=>(i.zero,i.size,i.bytes))=some (some (.agg #[.map none,.int .u32 0,vi 0,vi 0]),4,32):=ah
def nV (bs bn:Nat)(w:acL)(b0:Nat)(v:acK)(l:List FP.Hd):Prop:=w.ownsRow b0 251 4 v l.length (l.flatMap (uY bs bn))
section
variable{w':acL}{bs bn b0:Nat}{v:acK}{l:List FP.Hd}
def nV.grown (h:nV bs bn w b0 v l){row:Option Nat}(q:w.grownBy w' row)(hne:v.ownBlock=none\/v.ownBlock≠row):nV bs bn w' b0 v l:=acL.ownsRow.kept h q hne
def nV.old (h:nV bs bn w b0 v l)(hb:acN w.heap.size w w'):nV bs bn w' b0 v l :=
 h.grown (row:=none) ⟨hb.os,hb.tape,hb.output,hb.size,λk hk _=>hb.block k hk⟩ (by cases hv:v.ownBlock<;>simp)
def nV.form (h:nV bs bn w b0 v l):∃a c,v=aco a l.length c:=by
 rcases h.2 with⟨rfl,h0⟩|⟨g,cap,cur,rfl,_⟩;exact⟨none,0,by rw[h0]⟩;exact⟨_,_,rfl⟩
def nV.blk (h:nV bs bn w b0 v l):∀b,v.ownBlock=some b->b0<=b/\∃cur,aD w b 251 cur:=by
 intro b hb;rcases h.2 with⟨rfl,_⟩|⟨g,cap,cur,rfl,hg,hh,_⟩;simp[acK.ownBlock]at hb;simp[acK.ownBlock]at hb;subst hb;exact⟨hg,cur,hh⟩
def nV.nil (bs bn:Nat)(w:acL)(b0:Nat):nV bs bn w b0 (aco none 0 0) []:=acL.ownsRow_nil _ _ _ _
def Js (hown:nV bs bn w b0 v l)(x:FP.Hd)(hn:l.length+1<=1000000)(hb:b0<=w.heap.size) :
  ∃v' w',eH 225 225 225 v (.slice (some ⟨w.heap.size,0,none⟩) 1 1) (w.alloc (.cells (uY bs bn x).toArray 251)) v' w'/\nV bs bn w' b0 v' (l++[x])/\(w.alloc (.cells (uY bs bn x).toArray 251)).grownBy w' v.ownBlock:=by
 obtain⟨i0,hi,hz0,hz1,hz2⟩:=info_parts PZ;have hown':=hown.old ((acN.refl _ w).alloc aj (.cells (uY bs bn x).toArray 251));obtain⟨v',w',h1,h2,h3,_⟩:=run_append_own_at (P:=prog) (w.alloc (.cells (uY bs bn x).toArray 251)) b0 225 225 251 i0 _ 4 32 underlying225 hi hz0 hz1 hz2 rfl aa v l.length (l.flatMap (uY bs bn)) hown'
  ⟨w.heap.size,0,none⟩ 1 1 (uY bs bn x) rfl (λj u hu=>by
   rw[add_plain,Nat.zero_add,(aD.new w 251 (uY bs bn x).toArray).cell]
   simpa using hu) (by intro u hu;simp[uY]at hu;rcases hu with rfl|rfl|rfl|rfl<;>rfl)
   (by unfold maxLen;omega) aa (by simp;omega)
 refine⟨v',w',⟨h1⟩,?_,h3⟩;unfold nV;rw[acZ,List.flatMap_append];simpa using h2
structure yl (w0:acL)(bs bn gm r b:Nat)(left:Mp FP.cB)(v:acK)(l:List FP.Hd)(wr:acL):Prop where
 dW:acN w0.heap.size w0 wr
 it:gL wr r b .u32 dz left
 own:nV bs bn wr w0.heap.size v l
 maps:aD wr gm 149 #[.map (some bs),.map (some bn)]
 old:b<w0.heap.size/\w0.heap.size<=r
structure Yj (w0:acL)(bs bn gm:Nat)(v:acK)(l:List FP.Hd)(wr:acL):Prop where
 dW:acN w0.heap.size w0 wr
 own:nV bs bn wr w0.heap.size v l
 maps:aD wr gm 149 #[.map (some bs),.map (some bn)]
section
variable{w0 wr:acL}{gm r b:Nat}{left:Mp FP.cB}
def Yj.old (h:Yj w0 bs bn gm v l wr)(q:acN wr.heap.size wr w'):Yj w0 bs bn gm v l w':=⟨h.dW.trans (q.mono h.dW.size),h.own.old q,h.maps.old q⟩
def yl.aiZ (h:yl w0 bs bn gm r b left v l wr):Yj w0 bs bn gm v l wr:=⟨h.dW,h.own,h.maps⟩
def yl.old' (h:yl w0 bs bn gm r b left v l wr)(q:acN wr.heap.size wr w'):yl w0 bs bn gm r b left v l w':=⟨h.dW.trans (q.mono h.dW.size),h.it.old q,h.own.old q,h.maps.old q,h.old⟩
def nV.ZL (h:nV bs bn wr b0 v l)(hi:gL wr r b .u32 dz left):∀g,v.ownBlock=some g->g≠r:=λg hg e=>by
 obtain⟨_,cur,hb⟩:=h.blk g hg
 exact S9 hi _ _ (e▸hb)
def Yj.begin (h:Yj w0 bs bn gm v l wr){m:Mp FP.cB}(hm:bz w0 b .u32 dz m):∃w',xk 149 (.map (some b)) (.pointer (some ⟨wr.heap.size,0,none⟩)) wr w'/\yl w0 bs bn gm wr.heap.size b m v l w':=by
 have hm':bz wr b .u32 dz m:=hm.of_heap (h.dW.block b hm.lt);obtain⟨w',h1,h2,h3,h4⟩:=hm'.range (P:=prog) underlying149;exact⟨w',⟨h1⟩,(h.old h3).dW,h2,(h.old h3).own,(h.old h3).maps,hm.lt,h.dW.size⟩
def yl.next (h:yl w0 bs bn gm r b left v l wr):(left=[]/\kZ (.pointer (some ⟨r,0,none⟩)) (adg #[.bool false]) wr wr) \/
  ∃(k:Int) (pb pp:Int) (w':acL),(k,(⟨pb,pp⟩:FP.cB))∈left/\kZ (.pointer (some ⟨r,0,none⟩)) (adg #[.bool true,.int .u32 k,.agg #[vi pb,vi pp]]) wr w'/\yl w0 bs bn gm r b (MP.del left k) v l w'/\(MP.del left k).length<left.length/\left.Perm ((k,⟨pb,pp⟩)::MP.del left k) /\
   (Instr.entry (.pointer (some ⟨r,0,none⟩))).run prog w'=.ok (adg #[.int .u32 k,.agg #[vi pb,vi pp]]) w':=by
 rcases h.it.next (P:=prog) with⟨h1,h2⟩|⟨⟨k,pb,pp⟩,w',h1,h2,h3,h4,h5,h6⟩;exact ack ⟨h1,⟨h2⟩⟩;have hok:MP.Ok left:=by obtain⟨_,_,_,_,_,_,_,_,_,_,_,_,hok⟩:=h.it;exact hok
 have hg:=MP.dR hok h1;have hmr:gm≠r:=λe=>S9 h.it _ _ (e▸h.maps)
 have hgr:wr.grownBy w' (some r):=⟨h4.os,h4.tape,h4.output,h4.size,λi hi hn=>h4.block i hi (λe=>hn (by rw[e]))⟩;refine acm ⟨k,pb,pp,w',h1,⟨h2⟩,⟨h.dW.grown hgr h.dW.size (λk e=>by injection e with e;have:=h.old.2;omega),h3,h.own.grown hgr ?_,h.maps.aJ h4 hmr,h.old⟩,by have:=MP.o8 hg;dsimp only at this ⊢;omega,MP.fO hg,h6⟩;cases hv:v.ownBlock with
 |none=>exact ack rfl
 |some g=>exact acm (λe=>by injection e with e;exact h.own.ZL h.it g hv e)
def yl.app (h:yl w0 bs bn gm r b left v l wr)(x:FP.Hd)(hn:l.length+1<=1000000) :
  ∃v' w',eH 225 225 225 v (aco (some ⟨wr.heap.size,0,none⟩) 1 1) (wr.alloc (ach (uY bs bn x).toArray 251)) v' w'/\yl w0 bs bn gm r b left v' (l++[x]) w':=by
 obtain⟨v',w',h1,h2,h3⟩:=Js h.own x hn h.dW.size;have q:acN wr.heap.size wr (wr.alloc (ach (uY bs bn x).toArray 251)):=ax;have H:=h.old' q;refine⟨v',w',h1,H.dW.grown h3 H.dW.size (λk e=>(H.own.blk k e).1),H.it.of_heap (h3.block b H.it.lt.2 (λe=>?_)) (h3.block r H.it.lt.1 (λe=>?_)),h2,H.maps.grown h3 (bU H.own H.maps ag),h.old⟩;have:=(H.own.blk b e.symm).1;have:=h.old.1;omega;exact H.own.ZL H.it r e.symm rfl
end
def Gs (sl:Bool)(m:Mp FP.cB)(k:Int):(FP.hin sl m k).length<=m.length:=by
 unfold FP.hin;rw[List.length_map];exact List.length_filter_le _ _
def P5 {sl:Bool}{m done left:Mp FP.cB}(hp:(done++left).Perm m)(hl:left=[]):(FP.hin sl done k).Perm (FP.hin sl m k):=by
 subst hl;rw[List.append_nil]at hp;exact(hp.filter _).map _
def Jt {sl:Bool}{done:Mp FP.cB}{n:Int}{p:FP.cB}:FP.hin sl (done++[(n,p)]) k=FP.hin sl done k++(if p.block=k then [⟨sl,n,p⟩] else []):=by
 unfold FP.hin;rw[List.filter_append,List.map_append];congr 1;by_cases e:p.block=k;rw[if_pos e];simp[e];rw[if_neg e];simp[e]
def prt (X:dm)(k:Int):Nat->List FP.Hd
 |0=>[]
 |1=>FP.hin true X.S k
 |_=>X.view.raw k
def Ve (X:dm)(k:Int){j:Nat}(hj:j<2):∃(sl:Bool) (b:Nat) (m:Mp FP.cB),(if sl then X.bs else X.bn)=b/\(#[acK.map (some X.bs),acK.map (some X.bn)])[j]?=some (.map (some b))/\((b=X.bs/\m=X.S)\/(b=X.bn/\m=X.N))/\prt X k (j+1)=prt X k j++FP.hin sl m k:=by
 have:j=0\/j=1:=aa;rcases this with rfl|rfl;exact⟨true,X.bs,X.S,rfl,rfl,ack ⟨rfl,rfl⟩,rfl⟩;exact⟨false,X.bn,X.N,rfl,rfl,acm ⟨rfl,rfl⟩,rfl⟩
def NI (X:dm)(k:Int)(j:Nat):(prt X k j).length<=X.S.length+X.N.length:=by
 have h1:=Gs true X.S k;have h2:=Gs false X.N k;match j with
 |0=>simp[prt]
 |1=>show (FP.hin true X.S k).length<=_;omega
 |j+2=>show (FP.hin true X.S k++FP.hin false X.N k).length<=_;rw[acZ];omega
def aeN (X:dm)(k:Int)(w:acL)(v:acK)(W:acL):Prop:=∃l,acN w.heap.size w W/\nV X.bs X.bn W w.heap.size v l/\l.Perm (X.view.raw k)
def LG (h:bP aA w f X)(k:Nat)(hS:X.S.length+X.N.length<=100000)(Q:Ending->acL->Prop)
  (hQ:∀(a:Option Addr) (n c:Nat) (W:acL),aeN X k w (aco a n c) W->ac4 prog 193 #[aco a n c,.func (.func 194) #[] #[]] W λe w'=>e=ab4 (adg #[])/\Q (ab4 (aco a n c)) w') :
  ac4 prog 167 #[ptr f,vi k] w Q:=by
 have c5:w.cell? ⟨f,5,none⟩=some (.map (some X.bs)):=h.obj.cell 5;have c6:w.cell? ⟨f,6,none⟩=some (.map (some X.bn)):=h.obj.cell 6;have H:=az h;have HS:=az hS;have HQ:=az hQ;clear h hS hQ;go_in;go_upto_region 2 with fail;go_region;have yK:Hid (Yj w X.bs X.bn w.heap.size (aco none 0 0) [] (w.alloc (ach #[.map (some X.bs),.map (some X.bn)] 149)).drew):=az ⟨ax.drew,nV.nil _ _ _ _,aD.new _ _ _⟩;change Exit.then _ _ _ _ (w.alloc (ach #[.map (some X.bs),.map (some X.bn)] 149)).drew;clear c5 c6;generalize (w.alloc (ach #[.map (some X.bs),.map (some X.bn)] 149)).drew=w1 at*
 generalize w.heap.size=gm at*;go_wp2_with fail;go_loopw [5,20] (λv i wr=>∃(j:Nat) (av:Option Addr) (nv cv:Nat) (L:List FP.Hd),j<=2/\i=vi j/\v=aco av nv cv/\Hid (Yj w X.bs X.bn gm (aco av nv cv) L wr/\L.Perm (prt X k j))) (λ_ i _=>2-(intOf i).toNat)
 case atStart=>exact⟨0,none,0,0,[],aa,rfl,rfl,az ⟨yK.o,List.Perm.refl _⟩⟩
 case round =>
  obtain⟨j,av,nv,cv,L,hj,rfl,rfl,hst⟩:=hrel;by_cases hlt:j<2
  ·obtain⟨sl,b,m,hb,hcell,hm,aeO⟩:=Ve X k hlt;have GY:=az aeO;have vJ:=az hb;have hma:bz w b .u32 dz m:=by
    rcases hm with⟨rfl,rfl⟩|⟨rfl,rfl⟩;exact H.o.bD;exact H.o.now
   have HLM:Hid (L.length+m.length<=100000+100000):=az (by
    have h1:=hst.o.2.length_eq
    have h2:=NI X k j
    have h3:=HS.o
    have h4:m.length<=X.S.length+X.N.length:=by rcases hm with⟨_,rfl⟩|⟨_,rfl⟩<;>omega
    omega)
   have c0:wr.cell? ⟨gm,j,none⟩=some (.map (some b)):=by rw[hst.o.1.maps.cell];exact hcell
   have n0:(j:Int)<2:=aa;have n1:(0:Int)<=(j:Int):=aa;have n2:j<2:=hlt;obtain⟨wq,DJ,hnd⟩:=hst.o.1.begin hma;have Da:=az DJ;have GQ:=az hnd;have HLP:=az hst.o.2;clear DJ hnd hst hma hm aeO hb hcell;generalize wr.heap.size=r at*;go_wp2_with (at_range;refine iq rfl (.tmp 24) rfl rfl Da.o.run ?_);go_frame;clear Da c0;go_loopg [5] m.length (λkk v wr=>∃(done left:Mp FP.cB) (av:Option Addr) (nv cv:Nat) (L':List FP.Hd),left.length<=kk/\v=aco av nv cv/\Hid (yl w X.bs X.bn gm r b left (aco av nv cv) L' wr/\(done++left).Perm m/\L'.Perm (L++FP.hin sl done k)))
   case atStart=>exact⟨[],m,av,nv,cv,L,aj,rfl,az ⟨GQ.o,List.Perm.refl _,by simp[FP.hin]⟩⟩
   case round =>
    clear GQ;obtain⟨done,left,av,nv,cv,L',hlk,rfl,hrd⟩:=hrel;rcases hrd.o.1.next with⟨hnil,hnx⟩|⟨n,pb,pp,wn,hmem,hnx,hnd,hlt2,Ju,hen⟩
    ·have iH:=az hnx;have abJ:Hid (Yj w X.bs X.bn gm (aco av nv cv) L' wr/\L'.Perm (prt X k (j+1))):=az ⟨hrd.o.1.aiZ,by
      rw[GY.o]
      exact hrd.o.2.2.trans (List.Perm.append HLP.o (P5 hrd.o.2.1 hnil))⟩
     have HJ:=az hlt;clear hrd hnx hnil hlk HLP GY HLM n0 n1 n2 hj hlt;have r2:adk.wrap ((j:Int)+1)=((j+1:Nat):Int):=by rw[adl _ (by have:=HJ.o;omega)];omega
     go_wp2_with (at_next;refine dK rfl (.tmp 25) rfl rfl (iH.o.run _) ?_);go_roundw
     case rel=>exact⟨j+1,av,nv,cv,L',by have:=HJ.o;omega,rfl,rfl,abJ⟩
     case measure=>have:=HJ.o;simp[intOf];omega
    have iH:=az hnx;have GQ:=az hnd;have ig:=az hlt2;have HP2:Hid (((done++[(n,(⟨pb,pp⟩:FP.cB))])++MP.del left n).Perm m):=az (by
     rw[adM]
     exact(List.Perm.append_left _ Ju.symm).trans hrd.o.2.1)
    have Kj:Hid (L'.length+1<=1000000):=az (by
     have h1:=hrd.o.2.2.length_eq
     rw[acZ]at h1
     have h2:=Gs sl done k
     have h3:=hrd.o.2.1.length_eq
     rw[acZ]at h3
     have h4:=HLM.o
     omega)
    have HLQ:=az hrd.o.2.2;clear hrd hnx hnd hlt2 Ju hmem;go_upto_region 8 with (at_next;refine dK rfl (.tmp 25) rfl rfl (iH.o.run _) ?_);have FP8:Hid (aD (wn.alloc (ach #[vi pb,vi pp] 165)) wn.heap.size 165 #[vi pb,vi pp]):=az (aD.new _ _ _);have Dt:=az (GQ.o.old' (ak.alloc aj (ach #[vi pb,vi pp] 165)));change Code.wp _ _ _ _ (wn.alloc (ach #[vi pb,vi pp] 165));clear iH GQ hen;generalize wn.alloc (ach #[vi pb,vi pp] 165)=w8 at*;generalize wn.heap.size=g8 at*;obtain⟨d0,d1,_,_⟩:=bO FP8.o;by_cases hpk:pb=k
    ·subst hpk;have hbk:((k:Int)==(k:Int))=true:=ai;obtain⟨v9,w9,hrun,abK⟩:=Dt.o.app ⟨sl,n,⟨k,pp⟩⟩ Kj.o;have RA:=az hrun;obtain⟨a9,c9,XV⟩:=abK.own.form;rw[XV]at RA;have ZM:=az abK;rw[XV]at ZM;have abL:Hid ((L'++[(⟨sl,n,⟨k,pp⟩⟩:FP.Hd)]).Perm (L++FP.hin sl (done++[(n,(⟨k,pp⟩:FP.cB))]) k)):=az (by
      rw[Jt,if_pos rfl,<-adM]
      exact HLQ.o.append_right _)
     generalize (L'++[(⟨sl,n,⟨k,pp⟩⟩:FP.Hd)]).length=n9 at*;have HH:Hid ((uY X.bs X.bn ⟨sl,n,⟨k,pp⟩⟩).toArray=#[.map (some b),.int .u32 n,vi k,vi pp]):=az (by unfold uY;rw[vJ.o]);rw[HH.o]at RA;clear hrun abK XV Dt HLQ;go_wp2_with (at_builtin;refine wpList_append_run rfl (.tmp 35) (.tmp 40) rfl rfl rfl RA.o.run ?_);go_roundg (MP.del left n).length
     case measure=>have:=ig.o;omega
     case rel=>exact⟨_,_,a9,n9,c9,_,aj,rfl,az ⟨ZM.o,HP2.o,abL.o⟩⟩
    have hbk:((pb:Int)==(k:Int))=false:=beq_eq_false_iff_ne.2 hpk;have abL:Hid (L'.Perm (L++FP.hin sl (done++[(n,(⟨pb,pp⟩:FP.cB))]) k)):=az (by
     rw[Jt,if_neg hpk,List.append_nil]
     exact HLQ.o)
    clear hpk HLQ;go_wp2_with fail;go_roundg (MP.del left n).length
    case measure=>have:=ig.o;omega
    case rel=>exact⟨_,_,av,nv,cv,_,aj,rfl,az ⟨Dt.o,HP2.o,abL.o⟩⟩
  obtain rfl:j=2:=aa;have n0:¬(2:Int)<2:=aa;have HQ2:=az (HQ.o av nv cv wr ⟨L,hst.o.1.dW,hst.o.1.own,hst.o.2⟩);clear hst hj hlt;go_wp2_with fail;refine HQ2.o.mono ?_;rintro e w' ⟨rfl,hq⟩;have HQ3:=az hq;clear hq HQ2;go_wp2;exact HQ3.o
end
open Shelf Lib Go.Sort
abbrev HB:={h:FP.Hd // 0<=h.at_.aB/\h.at_.aB<=100000}
instance:Inhabited HB:=⟨⟨default,by decide⟩⟩
def ZO (x y:HB):Int:=x.1.at_.aB-y.1.at_.aB
def ai0:SWO (ltOf ZO):=⟨λx=>by simp[ltOf,ZO],λx y z h1 h2=>by
  unfold ltOf ZO at*
  have:=of_decide_eq_true h1
  have:=of_decide_eq_true h2
  exact decide_eq_true aa,λx y z h1 h2=>by
  unfold ltOf ZO at*
  have:=of_decide_eq_false h1
  have:=of_decide_eq_false h2
  exact decide_eq_false aa⟩
def Cn (bs bn:Nat)(x y:HB)(W:acL):ac4 prog 194 #[.agg (uY bs bn x.1).toArray,.agg (uY bs bn y.1).toArray] W λe w'=>e=ab4 (.int .i64 (ZO x y))/\∃q os',w'=grow (W.drewN q) os':=by
 have hw:adk.wrap (x.1.at_.aB-y.1.at_.aB)=x.1.at_.aB-y.1.at_.aB:=adl _ (by have:=x.2;have:=y.2;omega);unfold ZO uY;generalize x.1.at_.aB=p at*;generalize y.1.at_.aB=p' at*;generalize acK.map (some (if x.1.sl then bs else bn))=m at*;generalize acK.map (some (if y.1.sl then bs else bn))=m' at*;change ac4 prog 194 #[.agg #[m,.int .u32 x.1.aB,vi x.1.at_.block,vi p],.agg #[m',.int .u32 y.1.aB,vi y.1.at_.block,vi p']] W _;go_in;go_wp2;go_ret;exact⟨rfl,0,_,by rw[alloc_eq_grow,alloc_eq_grow,grow_grow];rfl⟩
def ZP (bs bn:Nat)(b0:Nat)(w:acL)(a:Option Addr)(l:List FP.Hd):Prop :=
 l=[]\/∃g,a=some ⟨g,0,none⟩/\b0<=g/\∀i,i<l.length->∀c u,(uY bs bn (l.getD i default))[c]?=some u->w.cell? ⟨g,i*4+c,none⟩=some u
def abM (X:dm)(k:Int)(w:acL)(e:Ending)(w':acL):Prop :=
 ∃a c,e=ab4 (aco a (X.view.needed k).length c)/\ZP X.bs X.bn w.heap.size w' a (X.view.needed k)/\acN w.heap.size w w'
section
variable{w':acL}{bs bn:Nat}{v:acK}{l:List FP.Hd}
def LH {W:acL}{g n:Nat}{os:Array Obj}{d:Array HB}:W.grownBy (sortWorldK (λx:HB=>uY bs bn x.1) 4 W g 0 n d os) (some g):=by
 unfold sortWorldK putRowK;refine⟨rfl,rfl,rfl,ai,λk hk hne=>?_⟩;rw[Go.Sort.heap_grow_old _ _ (by simpa using hk)];have:g≠k:=λe=>hne (by rw[e])
 simp[putRow,mapBlock,Sort.ahead,Array.getElem?_modify,this]
def flat_hd (bs bn:Nat)(l:List FP.Hd){i j:Nat}(hi:i<l.length)(hj:j<4):(l.flatMap (uY bs bn))[i*4+j]?=(uY bs bn (l.getD i default))[j]?:=by
 induction l generalizing i with
 |nil=>simp at hi
 |cons x l ih =>
  rw[List.flatMap_cons];cases i with
  |zero=>rw[List.getElem?_append_left (by rw[wN];omega)];simp
  |succ i =>
   rw[List.getElem?_append_right (by rw[wN];omega),wN,show (i+1)*4+j-4=i*4+j by omega,ih (by simpa using hi)];rfl
def flatK_hd (bs bn:Nat)(d:Array HB){t:Nat}(ht:t<d.size*4):(flatK (λx:HB=>uY bs bn x.1) 4 d)[t]! =(uY bs bn (d[t/4]!).1)[t%4]!:=get_flatK _ _ _ _ ht
def uD {l':List FP.Hd}(hp:l.Perm (X.view.raw k))(hp':l'.Perm l)(hs:l'.Pairwise (λx y=>x.at_.aB<=y.at_.aB))(hd:(X.view.raw k).Pairwise (λx y=>x.at_.aB≠y.at_.aB)):l'=X.view.needed k:=by
 refine FP.tJ (hp'.trans (hp.trans (FP.gZ _).symm)) ?_ (FP.EB hd);have h2:l'.Pairwise (λx y=>x.at_.aB≠y.at_.aB):=(hp'.trans hp).symm.pairwise hd (λ{x y} e=>Ne.symm e);exact List.Pairwise.imp₂ (λx y a b=>aa) hs h2
def LJ (h:bP aA w f X)(k:Nat)(hS:X.S.length+X.N.length<=100000)(hd:(X.view.raw k).Pairwise (λx y=>x.at_.aB≠y.at_.aB))(hb:∀x∈X.view.raw k,0<=x.at_.aB/\x.at_.aB<=100000) :
  ac4 prog 167 #[ptr f,vi k] w (abM X k w):=by
 refine LG h k hS _ λa n c W hW=>?_
 obtain⟨l,hbel,hown,hperm⟩:=hW;rcases hown.2 with⟨hv,h0⟩|⟨g,cap,cur,hv,hg,hgb,hnc,hcm,hsz,aet⟩;injection hv with ha hn hc;subst ha hn hc;have hl:l=[]:=aaY h0;have hnd:X.view.needed k=[]:=(uD hperm (List.Perm.refl _) (by rw[hl];exact List.Pairwise.nil) hd).symm.trans hl;refine(AnyF.slices_SortFunc_none sortHeld none 0 _ W).mono ?_;rintro e w' ⟨rfl,rfl⟩;refine⟨rfl,none,0,by rw[hnd];rfl,ack hnd,hbel⟩;injection hv with ha hn hc;subst ha hn hc;have hbl:∀x∈l,0<=x.at_.aB/\x.at_.aB<=100000:=λx hx=>hb x (hperm.subset hx)
 obtain⟨d,hdd⟩:∃d:Array HB,d.toList.map (·.1)=l:=⟨(l.pmap (λx hx=>(⟨x,hx⟩:HB)) hbl).toArray,by simp[List.map_pmap]⟩;have hsz2:d.size=l.length:=by rw[<-hdd];simp
 have hget:∀i,i<d.size->(d[i]!).1=l.getD i default:=λi hi=>by
  rw[<-hdd,aah,List.getElem?_map,Array.getElem?_toList,Array.getElem?_eq_getElem hi,getElem!_pos d i hi];rfl
 have hH:HoldsK (λx:HB=>uY X.bs X.bn x.1) 4 W g 0 d:=by
  intro t ht;have ht':t<d.size*4:=by simpa using ht
  have h1:=acL.ownsRow.cellAt hown t aa;have h2:=acL.ownsRow.frozenAt hown t;rw[Nat.zero_add];refine⟨?_,h2⟩;rw[h1,flatK_hd _ _ _ ht',hget _ aa];have e:=flat_hd X.bs X.bn l (i:=t/4) (j:=t%4) aa aa;rw[show t/4*4+t%4=t by omega]at e;rw[e];have:t%4<(uY X.bs X.bn (l.getD (t/4) default)).length:=by rw[wN];omega
  rw[List.getElem?_eq_getElem this,getElem!_pos (uY X.bs X.bn (l.getD (t/4) default)) (t%4) this];rfl
 have hgl:g<W.heap.size:=by have h1:aD W g 251 cur:=hgb;exact h1.lt
 have eg:∀args w,(callFunc 194 args).run prog w=.ok (.enter 194 args) w:=enters_of func194 ah rfl;have hcon:=AnyQ.slices_SortFunc sortHeld 4 isAgg251 sizeOf251 (λx:HB=>uY X.bs X.bn x.1) (λ_=>rfl) (λx v hv=>by simp[uY]at hv;rcases hv with rfl|rfl|rfl|rfl<;>rfl) ZO ai0 194 #[] g 0 c d W eg (λ_ _ _ _ x y=>Cn X.bs X.bn x y _) hH hgl (by
  have h1:=hperm.length_eq
  have h2:(X.view.raw k).length<=X.S.length+X.N.length:=NI X k 2
  omega)
 rw[hsz2]at hcon;refine hcon.mono ?_;rintro e w' ⟨rfl,d',n,os,ai1,ai2,rfl⟩;obtain⟨hds,_,XJ⟩:=ai1;have hH':=holdsK_sortWorldK_c (λx:HB=>uY X.bs X.bn x.1) 4 W g 0 d d' n os hH hgl hds;have hex:∀z:Array HB,z.size=l.length->(z.extract 0 l.length).toList=z.toList:=λz hz=>by
  rw[<-hz];simp
 rw[hex d' aa,hex d hsz2]at XJ;have Vf:(d'.toList.map (·.1)).Perm l:=by
  have:=XJ.map (λx:HB=>x.1);rwa[hdd]at this
 have Yk:(d'.toList.map (·.1)).Pairwise (λx y=>x.at_.aB<=y.at_.aB):=by
  refine List.pairwise_map.2 (List.pairwise_iff_getElem.2 λi j hi hj hij=>?_);have:=ai2 i j aa hij (by simpa[hds,hsz2] using hj);unfold ltOf ZO at this;have h3:=of_decide_eq_false this;rw[getElem!_pos d' i (by simpa using hi),getElem!_pos d' j (by simpa using hj)]at h3;simp only[Array.getElem_toList];omega
 have hnd:=uD hperm Vf Yk hd;have hlen:(X.view.needed k).length=l.length:=by rw[<-hnd];exact Vf.length_eq
 refine⟨rfl,some ⟨g,0,none⟩,c,by rw[hlen],Or.inr ⟨g,rfl,hg,λi hi cc u hu=>?_⟩,?_⟩;have hi':i<d'.size:=aa;have hc4:cc<4:=by
  have:=(List.getElem?_eq_some_iff.1 hu).1;rw[wN]at this;exact this
 have h5:=(HoldsK.cell hH' (i:=i) (c:=cc) hi' hc4).1;rw[Nat.zero_add]at h5;rw[h5];have e5:(d'[i]!).1=(X.view.needed k).getD i default:=by
  rw[<-hnd,aah,List.getElem?_map,Array.getElem?_toList,Array.getElem?_eq_getElem hi',getElem!_pos d' i hi'];rfl
 rw[e5];have h6:=List.getElem?_eq_some_iff.1 hu;obtain⟨h7,h8⟩:=h6;rw[getElem!_pos (uY X.bs X.bn ((X.view.needed k).getD i default)) cc h7,h8];exact hbel.grown LH hbel.size (λk e=>by injection e with e;omega)
end
structure Co (k:Nat)(L:List FP.Hd)(V:FP.Ft):Prop where
 sound:FP.Sound V
 lt:k<V.c.B
 need:V.needed k=L
 st:V.raw k≠[]->(V.g.blk k).s=2
 aK:((V.raw k).length:Int)<=bT V.g.jD V.c.P
variable{h:FP.Hd}{L:List FP.Hd}
def Co.step {k:Nat}(I:Co k (h::L) V):∃V1,V.mv1 k h=some V1/\Co k L V1/\h∈V.raw k:=by
 have hp:(V.needed k).Perm (V.raw k):=FP.gZ _;rw[I.need]at hp;have hh:h∈V.raw k:=hp.subset ai;have hne:V.raw k≠[]:=List.ne_nil_of_mem hh;have hpos:0<(V.raw k).length:=aiP hh;obtain⟨f1,h1,E⟩:=FP.UZ I.sound I.lt hh (I.st hne) (by have:=I.aK;omega);have hlen:=E.raw.length_eq;rw[adV]at hlen;have hL:f1.needed k=L:=by
  refine FP.tJ ?_ (E.sound.tK k) ?_;have h2:(h::f1.needed k).Perm (h::L):=((FP.gZ (f1.raw k)).cons h).trans (E.raw.symm.trans hp.symm);exact List.Perm.cons_inv h2;have:=I.sound.tK k;rw[I.need]at this;exact(aaL.1 this).2
 exact⟨f1,h1,⟨E.sound,by rw[E.keep.bI.1];exact I.lt,hL,E.st,by rw[E.aK];have:=I.aK;omega⟩,hh⟩
def Ap (f:Nat)(Y:dm)(w:acL)(g:Nat):Prop:=¬Y.foot f g/\g<w.heap.size
section
variable{wa wb wr:acL}{g k:Nat}{Y Ya Yb:dm}{L:List FP.Hd}{V DK:FP.Ft}
def Ap.goes (h:Ap f Ya wa g)(q:aQ aA wa f Ya wb Yb):Ap f Yb wb g :=
 ⟨λe=>by
  rcases q.foot g e with h1|h1
  exact h.1 h1
  have:=h.2;omega,Nat.lt_of_lt_of_le h.2 q.size⟩
def Ap.blk (h:Ap f Ya wa g)(q:aQ aA wa f Ya wb Yb){t:TypeId}{cs:Array acK}(hb:aD wa g t cs):aD wb g t cs:=hb.aJ q.aJ h.1
def Ap.cell (h:Ap f Ya wa g)(q:aQ aA wa f Ya wb Yb){o:Nat}{v:acK}(hb:wa.cell? ⟨g,o,none⟩=some v):wb.cell? ⟨g,o,none⟩=some v:=q.aJ.cell hb h.1
def Ap.old (h:Ap f Ya wa g)(q:acN wa.heap.size wa wb):Ap f Ya wb g:=⟨h.1,Nat.lt_of_lt_of_le h.2 q.size⟩
def Ap.new (h:bP aA wa f Ya)(o:Obj):Ap f Ya (wa.alloc o) wa.heap.size:=⟨λe=>by have:=h.lt _ e;omega,by simp⟩
def jR (bs bn g:Nat)(L:List FP.Hd)(w:acL):Prop:=∀i,i<L.length->∀c u,(uY bs bn (L.getD i default))[c]?=some u->w.cell? ⟨g,i*4+c,none⟩=some u
def jR.goes (h:jR X.bs X.bn g L wa)(ha:Ap f Ya wa g)(q:aQ aA wa f Ya wb Yb):jR X.bs X.bn g L wb:=λi hi c u hu=>ha.cell q (h i hi c u hu)
structure abN (aA:Nat)(w:acL)(f:Nat)(X:dm)(k:Nat)(g:Nat)(L:List FP.Hd)(DK:FP.Ft)(j:Nat)(wr:acL)(Y:dm):Prop where
 goes:aQ aA w f X wr Y
 maps:Y.bs=X.bs/\Y.bn=X.bn/\Y.bg=X.bg
 inv:Co k (L.drop j) Y.view
 run:FP.mvTo k (L.drop j) Y.view=some DK
 row:jR X.bs X.bn g L wr
 ap:L≠[]->Ap f Y wr g
def P6 {V1:FP.Ft}{k:Int}(h1:V.mv1 k h=some V1):FP.mvTo k (h::L) V=FP.mvTo k L V1:=by
 show (match V.mv1 k h with|none=>none|some f1=>FP.mvTo k L f1)=_;rw[h1]
def P7 {j:Nat}(hj:j<L.length):L.drop j=L.getD j default::L.drop (j+1):=by
 rw[List.drop_eq_getElem_cons hj,aah,List.getElem?_eq_getElem hj];rfl
def Vg {V1:FP.Ft}{k:Int}(e:V.mv1 k h=some V1):(NP.bQ V.c k h.at_.aB).1.2=0/\∃p f1,({V with c:=(NP.bQ V.c k h.at_.aB).2}:FP.Ft).copied (NP.bQ V.c k h.at_.aB).1.1=some (p,f1) /\
  V1={(f1.dE h.sl h.aB p).dC h.aB with g:=(((f1.dE h.sl h.aB p).dC h.aB).g.drop k).2}:=by
 unfold FP.Ft.mv1 at e;dsimp only at e;split at e;cases e;rename_i h0;refine⟨ad2 h0,?_⟩;split at e;cases e;rename_i p f1 hc;injection e with e;exact⟨p,f1,hc,e.symm⟩
def Jv {F1:FP.Ft}{l:List Nat}{p:FP.cB}(h1:gW F.c)(h2:F.g.ok F.c)(hs:∀y∈l,y<256)(e:F.copied l=some (p,F1)):gW F1.c/\F1.g.ok F1.c/\F1.c.B=F.c.B/\F1.c.P=F.c.P/\F1.now=F.now/\F1.bD=F.bD/\F1.gone=F.gone:=by
 obtain⟨_,_,_,rfl⟩:=zf e;have ha:=kC (g:=F.g) (c:=F.c) hs;have hb:=nP hs h1 h2;have hr:fI (λ_=>False) (Mg.program l F.c F.g).2.1 (NP.bQ (Mg.program l F.c F.g).2.1 p.block p.aB).2:=.one (.read p.block p.aB) trivial (λk e=>by cases e);have hd:=(ha.trans hr).bI;exact⟨(ha.trans hr).good h1,hb.acts hr,hd.1,hd.2.1,rfl,rfl,rfl⟩
def P8 (h:bP aA w f Y)(sl:Bool)(n:Int)(p:FP.cB){mb:Nat}(hmb:mb=(if sl then Y.bs else Y.bn)):∃w' Y',ER 149 (.map (some mb)) (.int .u32 n) (.agg #[vi p.block,vi p.aB]) w w'/\aQ aA w f Y w' Y'/\Y'.view=Y.view.dE sl n p/\Y'.bs=Y.bs/\Y'.bn=Y.bn/\Y'.bg=Y.bg/\Y'.G=Y.G/\Y'.M=Y.M:=by
 cases sl;obtain⟨w',h1,h2,h3⟩:=rE h.now n p.block p.aB;simp only[afW,if_false]at hmb;subst hmb;exact⟨w',_,h1,h.Fp h3 h2,rfl,rfl,rfl,rfl,rfl,rfl⟩;obtain⟨w',h1,h2,h3⟩:=rE h.bD n p.block p.aB;simp only[if_true]at hmb;subst hmb;exact⟨w',_,h1,h.MK h3 h2,rfl,rfl,rfl,rfl,rfl,rfl⟩
def Vh (h:bP aA w f X)(hS:FP.Sound X.view)(hI:Co k (X.view.needed k) X.view)(DK:FP.Ft)(hq:X.view.move k=some DK)(hbase:aA<=w.heap.size) :
  ac4 prog 196 #[ptr f,vi k] w λe w'=>∃X',e=.returned (vi 0)/\aQ aA w f X w' X'/\X'.view=DK/\X'.bs=X.bs/\X'.bn=X.bn/\X'.bg=X.bg:=by
 obtain⟨L,hL⟩:∃L,L=X.view.needed k:=⟨_,rfl⟩;have GQ:Hid (ac4 prog 167 #[ptr f,vi k] w λe w'=>∃a c,e=.returned (.slice a L.length c)/\ZP X.bs X.bn w.heap.size w' a L/\acN w.heap.size w w'):=az (by
  rw[hL]
  exact LJ h k (by
   have h1:=hS.fit.slow.len
   have h2:=hS.fit.oG.len
   have h1':X.S.length<=8192:=h1
   have h2':X.N.length<=8192:=h2
   omega) hS.EE (λx hx=>by
   have h1:=hS.place _ _ _ (hS.mem.1 hx).2
   have h2:=hS.cg.good.ok.next _ (hS.cg.good.ok.mem h1.lt)
   have h3:=hS.cg.bI
   have h4:=h1.p0
   have h5:=h1.p1
   omega))
 have H:=az h;have HI:Hid (Co k L X.view):=az (by rw[hL];exact hI);have HQ:Hid (FP.mvTo k L X.view=some DK):=az (by rw[hL];exact hq);have XP:Hid (L.length<=32):=az (by
  have h1:=(FP.gZ (X.view.raw k)).length_eq
  have h2:=hS.U2 hI.lt
  have h3:=hS.cg.bI
  have h4:(X.view.needed k).length=(X.view.raw k).length:=h1
  rw[hL]
  omega)
 clear h hS hI hq hL;go_in;go_wp2_with fail;refine GQ.o.mono ?_;rintro e w1 ⟨a,c,rfl,hrow,hbel⟩;obtain⟨g,hg⟩:∃g,(L=[]\/a=some ⟨g,0,none⟩)/\Hid (jR X.bs X.bn g L w1/\(L≠[]->Ap f X w1 g)):=by
  rcases hrow with e|⟨g,e,h1,h2⟩;exact⟨0,.inl e,az ⟨λi hi=>by rw[e]at hi;simp at hi,λh=>absurd e h⟩⟩;refine⟨g,.inr e,az ⟨h2,λhne=>⟨λe2=>by have:=H.o.lt _ e2;omega,?_⟩⟩⟩;have h3:=h2 0 (List.length_pos_iff.2 hne) 0 _ rfl;exact lU h3
 have HAG:=az hg.1;have HST:Hid (abN aA w f X k g L DK 0 w1 X):=az ⟨aQ.aX H.o hbel,⟨rfl,rfl,rfl⟩,HI.o,HQ.o,hg.2.o.1,hg.2.o.2⟩;clear hrow hbel hg GQ HI HQ;go_wp2_with fail;go_loopw [16] (λi wr=>∃(j:Nat),j<=L.length/\i=vi j/\∃Y,Hid (abN aA w f X k g L DK j wr Y)) (λi _=>L.length-(intOf i).toNat)
 case atStart=>exact⟨0,Nat.zero_le _,rfl,X,HST⟩
 case round =>
  clear HST;obtain⟨j,hj,rfl,Y,hst⟩:=hrel;by_cases hlt:j<L.length
  ·obtain rfl:a=some ⟨g,0,none⟩:=by
    rcases HAG.o with e|e;rw[e]at hlt;simp at hlt;exact e
   have hinv:=hst.o.inv;have hrun:=hst.o.run;rw[P7 hlt]at hinv hrun;obtain⟨V1,hm1,hi1,hmem⟩:=hinv.step;rw[P6 hm1]at hrun;obtain⟨hr0,p,F1,hcp,hV1⟩:=Vg hm1;have hin:=hinv.sound.place _ _ _ (hinv.sound.mem.1 hmem).2;have hblk:=(hinv.sound.mem.1 hmem).1;have hgood:=hinv.sound.cg;have hc:=hst.o.row j hlt;generalize L.getD j default=hd at*;obtain⟨sl,n,pb,pg⟩:=hd;dsimp only at*;subst hblk;have d0:wr.cell? ⟨g,j*4,none⟩=some (.map (some (if sl then X.bs else X.bn))):=hc 0 _ rfl;have d1:wr.cell? ⟨g,j*4+1,none⟩=some (.int .u32 n):=hc 1 _ rfl;have d2:wr.cell? ⟨g,j*4+2,none⟩=some (vi k):=hc 2 _ rfl
   have d3:wr.cell? ⟨g,j*4+3,none⟩=some (vi pg):=hc 3 _ rfl;obtain⟨mb,hmb⟩:∃mb,mb=(if sl then X.bs else X.bn):=⟨_,rfl⟩;rw[<-hmb]at d0;have HMB:=az hmb;have eX:=az hin;have P9:=az hgood;have lF:=az hrun;have HI1:=az hi1;have JS:=az hcp;have ZF:=az hV1;have zi:=az hr0;have ig:=az hlt;have ai3:=az (hinv.sound.mem.1 hmem).2;dsimp only at ai3;have QZ:Hid (0<=n/\n<8192):=az (by
    have h1:=(hinv.sound.mem.1 hmem).2
    unfold FP.Ft.gM at h1
    dsimp only at h1
    cases sl
    exact FP.wH hinv.sound.fit.oG h1
    exact FP.wH hinv.sound.fit.slow h1)
   have HAP:=az (hst.o.ap (by intro e;rw[e]at hlt;simp at hlt));have n0:(0:Int)<=(j:Int):=aa;have n1:(j:Int)<(L.length:Int):=aa;clear hc hmb hin hgood hrun hi1 hcp hV1 hr0 hmem hinv hm1 hj hlt HAG;go_upto_region 4 with fail;have qF:Hid (aD (wr.alloc (.cells #[.map (some mb),.int .u32 n,vi k,vi pg] 251)) wr.heap.size 251 #[.map (some mb),.int .u32 n,vi k,vi pg]):=az (aD.new _ _ _);have lK:acN wr.heap.size wr (wr.alloc (.cells #[.map (some mb),.int .u32 n,vi k,vi pg] 251)):=ax;have iR:=az (hst.o.goes.old lK);have OQ:=az (ae7 (Ap.new hst.o.goes.at_ (.cells #[.map (some mb),.int .u32 n,vi k,vi pg] 251)) (HAP.o.old lK))
   have OU:Hid (jR X.bs X.bn g L (wr.alloc (.cells #[.map (some mb),.int .u32 n,vi k,vi pg] 251))):=az (λi hi c u hu=>cell_below (hst.o.row i hi c u hu) lK);have ZQ:=az hst.o.maps;change Code.wp _ _ _ _ (wr.alloc (.cells #[.map (some mb),.int .u32 n,vi k,vi pg] 251));clear lK HAP hst d0 d1 d2 d3;generalize wr.alloc (.cells #[.map (some mb),.int .u32 n,vi k,vi pg] 251)=w3 at*;generalize wr.heap.size=x at*;have c0:w3.cell? ⟨f,0,none⟩=some (ptr Y.G.k):=iR.o.at_.obj.cell 0;have x3:w3.cell? ⟨x,3,none⟩=some (vi pg):=qF.o.cell 3;have HS:Hid (w3.drew.cell? ⟨f,0,none⟩=some (ptr Y.G.k)/\w3.drew.cell? ⟨x,3,none⟩=some (vi pg)):=az ⟨c0,x3⟩
   have bK:=az (_root_.Go.Proofs.YtllmbcigmimgoaaGreat.Read_any (iR.o.at_.held.aW.old au) P9.o.good.ok k pg);have hfn:¬Y.M.foot Y.G.k f:=λe=>iR.o.at_.nQ.2.2.2.2 (.inr e)
   have hxn:¬Y.M.foot Y.G.k x:=λe=>OQ.o.1.1 (.inr (.inr (.inr (.inr (.inr (.inr e))))))
   have nS:Hid (∀W M',Goes aA w3.drew Y.G.k Y.M W M'->(W.cell? ⟨f,0,none⟩=some (ptr Y.G.k)/\W.cell? ⟨x,3,none⟩=some (vi pg))) :=
    az (λW M' q=>⟨q.aJ.cell HS.o.1 hfn,q.aJ.cell HS.o.2 hxn⟩)
   go_region_held3 (λw'=>w'.cell? ⟨f,0,none⟩=some (ptr Y.G.k)/\w'.cell? ⟨x,3,none⟩=some (vi pg))
    (first|exact HS.o|exact nS.o _ _ (by assumption))
    (first|(go_at_call 101;refine bK.o.mono ?_;rintro e w4 ⟨v4,M4,rfl,zm,hg4,hv4⟩))
   rw[zi.o];have Qa:=az ((aQ.aX iR.o.at_ au).trans ((iR.o.at_.old au).jG hg4));have nJ:=az (OQ.o.1.blk Qa.o qF.o);have GJ:=az (ae7 (OQ.o.1.goes Qa.o) (OQ.o.2.goes Qa.o));have aeQ:=az (OU.o.goes OQ.o.2 Qa.o);have qK:=az (iR.o.trans Qa.o);have lX:=az (yM P9.o.good.ok k pg);obtain⟨a4,k4,rfl,hs4,hl4,hc4,_⟩:=zm.Db (aA:=aA) lX.o;have HSR:=az hs4;have aeR:Hid (0<(NP.bQ Y.M.view k pg).1.1.length/\(NP.bQ Y.M.view k pg).1.1.length<=900000):=az (by
    have h1:=FP.zS P9.o eX.o
    have h2:=FP.wu P9.o.good.ok eX.o
    have h3:=sM P9.o.good.ok
    have h4:Y.M.view.S<=512:=by
     have h5:NP.bH Y.M.view.B Y.M.view.P Y.M.view.S=true:=P9.o.good.ok.right
     unfold NP.bH at h5
     simp only[ac8,ae5,beq_iff_eq,decide_eq_true_eq]at h5
     omega
    rw[h1,h2.1]
    unfold NP.bX.full
    omega)
   have QW:Hid (({Y with M:=M4}:dm).view.copied (NP.bQ Y.M.view k pg).1.1=some (p,F1)):=az (by
    have e:({Y with M:=M4}:dm).view={Y.view with c:=(NP.bQ Y.M.view k pg).2}:=by rw[<-hv4]
    rw[e]
    exact JS.o)
   have O0:Hid (gW M4.view/\Y.G.view.ok M4.view):=az (by
    rw[hv4]
    have hr:fI (λ_=>False) Y.M.view (NP.bQ Y.M.view k pg).2:=.one (.read k pg) trivial (λk e=>by cases e)
    exact⟨hr.good P9.o.good,P9.o.lL.acts hr⟩)
   have abO:=az (Jv (F:=({Y with M:=M4}:dm).view) O0.o.1 O0.o.2 lX.o QW.o);have HCY:=az (LF qK.o.at_ O0.o.1 O0.o.2 a4 _ k4 HSR.o aeR.o p F1 QW.o (abX hbase qK.o.size));clear hs4 zm hg4 hv4 nS bK HS c0 x3 hfn hxn Qa iR OQ qF OU zi aeR lX HSR QW JS P9 eX;generalize NP.bQ Y.M.view k pg=rr at*;obtain⟨⟨bl,be⟩,U⟩:=rr;dsimp only at*;generalize bl.length=nl at*;go_wp2_with fail;refine HCY.o.mono ?_;rintro e w5 ⟨Y5,rfl,hg5,hv5,hm5⟩;have Bl:=az (qK.o.trans hg5);have xR:=az (GJ.o.1.blk hg5 nJ.o);have zo:=az (ae7 (GJ.o.1.goes hg5) (GJ.o.2.goes hg5))
   have Uh:=az (aeQ.o.goes GJ.o.2 hg5);have HV5:=az hv5;have Wo:Hid (Y5.bs=X.bs/\Y5.bn=X.bn/\Y5.bg=X.bg):=az ⟨hm5.1.trans ZQ.o.1,hm5.2.1.trans ZQ.o.2.1,hm5.2.2.trans ZQ.o.2.2⟩;clear hg5 hv5 hm5 HCY qK nJ GJ aeQ ZQ O0;obtain⟨qb,qp⟩:=p;go_upto_region 8 with fail;have HY6:Hid (aD (w5.alloc (.cells #[vi qb,vi qp] 165)) w5.heap.size 165 #[vi qb,vi qp]):=az (aD.new _ _ _);have lK:acN w5.heap.size w5 (w5.alloc (.cells #[vi qb,vi qp] 165)):=ax;have O5:=az (Bl.o.old lK);have BU:=az (xR.o.old lK);have HA6:=az (ae7 (zo.o.1.old lK) (ae7 (zo.o.2.old lK) (Ap.new Bl.o.at_ (.cells #[vi qb,vi qp] 165))))
   have aeT:Hid (jR X.bs X.bn g L (w5.alloc (.cells #[vi qb,vi qp] 165))):=az (λi hi c u hu=>cell_below (Uh.o i hi c u hu) lK);change Code.wp _ _ _ _ (w5.alloc (.cells #[vi qb,vi qp] 165));clear lK Bl xR zo Uh;generalize w5.alloc (.cells #[vi qb,vi qp] 165)=w6 at*;generalize w5.heap.size=y at*;have x0:w6.cell? ⟨x,0,none⟩=some (.map (some mb)):=BU.o.cell 0;have x1:w6.cell? ⟨x,1,none⟩=some (.int .u32 n):=BU.o.cell 1;have y0:w6.cell? ⟨y,0,none⟩=some (vi qb):=HY6.o.cell 0;have y1:w6.cell? ⟨y,1,none⟩=some (vi qp):=HY6.o.cell 1;obtain⟨w7,Y7,hup,yO,hv7,hm7⟩:=P8 O5.o.at_ sl n ⟨qb,qp⟩ (mb:=mb) (by rw[HMB.o,Wo.o.1,Wo.o.2.1])
   have HUP:=az hup;have Dp:=az (O5.o.trans yO);have BG:=az (HA6.o.1.blk yO BU.o);have HA7:=az (ae7 (HA6.o.1.goes yO) (HA6.o.2.1.goes yO));have aeU:=az (aeT.o.goes HA6.o.2.1 yO);have Wp:Hid (Y7.view=F1.dE sl n ⟨qb,qp⟩):=az (by rw[hv7,HV5.o]);have HM7:Hid (Y7.bs=X.bs/\Y7.bn=X.bn/\Y7.bg=X.bg):=az ⟨hm7.1.trans Wo.o.1,hm7.2.1.trans Wo.o.2.1,hm7.2.2.1.trans Wo.o.2.2⟩;clear hup yO hv7 hm7;go_upto_region 11 with (at_mapUpdate;refine gP rfl (.tmp 45) (.tmp 47) (.tmp 48) rfl rfl rfl rfl HUP.o.run ?_);go_frame;clear HUP O5 BU HA6 aeT HY6 x0 x1 y0 y1 HV5 Wo
   have c7:w7.cell? ⟨f,7,none⟩=some (.map (some Y7.bg)):=Dp.o.at_.obj.cell 7;have x1:w7.cell? ⟨x,1,none⟩=some (.int .u32 n):=BG.o.cell 1;obtain⟨pb,pp,ok,hlk,hok⟩:∃(pb pp:Int) (ok:Bool),(∀W,bP aA W f Y7->(Instr.lookup 149 (.map (some Y7.bg)) (.int .u32 n) true).run prog W=.ok (.tuple #[.agg #[vi pb,vi pp],.bool ok]) W)/\MP.has Y7.D n=ok:=by
    cases hg:MP.get Y7.D n with
    |some q=>exact⟨q.block,q.aB,true,λW h=>mg h.gone hg,by unfold MP.has;rw[hg];rfl⟩
    |none=>exact⟨0,0,false,λW h=>mh h.gone hg,by unfold MP.has;rw[hg];rfl⟩
   have vM:=az hok;have l1:=hlk w7.drew (Dp.o.at_.old au);have Ii:Hid (acN w7.heap.size w7 (w7.alloc (.cells #[vi 0,vi 0] 165)).drew):=az ax.drew;have l2:=hlk _ (Dp.o.at_.old Ii.o);have c7a:(w7.alloc (.cells #[vi 0,vi 0] 165)).drew.cell? ⟨f,7,none⟩=some (.map (some Y7.bg)):=cell_below c7 Ii.o;have x1a:(w7.alloc (.cells #[vi 0,vi 0] 165)).drew.cell? ⟨x,1,none⟩=some (.int .u32 n):=cell_below x1 Ii.o;clear hok hlk;go_cut [10,11] from 49 to 58 (λ_ v wx=>v=.bool ok/\Hid (aQ aA w f X wx Y7/\aD wx x 251 #[.map (some mb),.int .u32 n,vi k,vi pg]/\Ap f Y7 wx x/\Ap f Y7 wx g/\jR X.bs X.bn g L wx))
   case first =>
    have fV:Hid (w7.drew.cell? ⟨f,7,none⟩=some (.map (some Y7.bg))/\w7.drew.cell? ⟨x,1,none⟩=some (.int .u32 n)):=az ⟨c7,x1⟩;have HS2:Hid ((w7.alloc (.cells #[vi 0,vi 0] 165)).drew.cell? ⟨f,7,none⟩=some (.map (some Y7.bg))/\(w7.alloc (.cells #[vi 0,vi 0] 165)).drew.cell? ⟨x,1,none⟩=some (.int .u32 n)):=az ⟨c7a,x1a⟩;have Kv:Hid (acN w7.heap.size w7 (w7.alloc (.cells #[vi pb,vi pp] 165)).drew):=az ax.drew;have GL:Hid ((w7.alloc (.cells #[vi pb,vi pp] 165)).drew.cell? ⟨f,7,none⟩=some (.map (some Y7.bg))/\(w7.alloc (.cells #[vi pb,vi pp] 165)).drew.cell? ⟨x,1,none⟩=some (.int .u32 n)):=az ⟨cell_below c7 Kv.o,cell_below x1 Kv.o⟩
    clear c7 x1 c7a x1a Ii;go_region_held3 (λW=>W.cell? ⟨f,7,none⟩=some (.map (some Y7.bg))/\W.cell? ⟨x,1,none⟩=some (.int .u32 n))
     (first|exact fV.o|exact HS2.o|exact GL.o)
     (fail)
    all_goals
     go_wp2;go_meet;exact⟨rfl,az ⟨Dp.o.old Kv.o,BG.o.old Kv.o,HA7.o.1.old Kv.o,HA7.o.2.old Kv.o,λi hi c u hu=>cell_below (aeU.o i hi c u hu) Kv.o⟩⟩
   case rest =>
   obtain⟨rfl,hcut⟩:=hcut;have C8:=az hcut.o.1;have zP:=az hcut.o.2.1;have Yl:=az (ae7 hcut.o.2.2.1 hcut.o.2.2.2.1);have abR:=az hcut.o.2.2.2.2;clear hcut l1 l2 Ii c7a x1a Dp BG HA7 aeU c7 x1;have x1:wc.cell? ⟨x,1,none⟩=some (.int .u32 n):=zP.o.cell 1;have Zz:Hid ((F1.dE sl n ⟨qb,qp⟩).dC n=if 0<n/\ok=true then {(F1.dE sl n ⟨qb,qp⟩) with gone:=MP.put Y7.D n ((MP.get Y7.S n).getD default)} else F1.dE sl n ⟨qb,qp⟩):=az (by
    have e1:(F1.dE sl n ⟨qb,qp⟩).gone=Y7.D:=by rw[<-Wp.o]
    have e2:(F1.dE sl n ⟨qb,qp⟩).bD=Y7.S:=by rw[<-Wp.o]
    have e3:MP.get (F1.dE sl n ⟨qb,qp⟩).bD n=MP.get Y7.S n:=by rw[e2]
    rw[<-vM.o]
    unfold FP.Ft.dC
    rw[e1,e3])
   go_upto_region 12 with fail;go_cut [64] from 59 to 63 (λv wx=>v=.bool (decide (0<n/\ok=true))/\wx=wc)
   case first =>
    cases ok
    ·go_wp2;go_meet;exact⟨ai,rfl⟩
    by_cases hn:0<n
    ·have hn':decide (0<n)=true:=decide_eq_true hn;go_wp2;go_meet;exact⟨by simp[hn],rfl⟩
    have hn':¬0<n:=hn;go_wp2;go_meet;exact⟨by simp[hn],rfl⟩
   case rest =>
   obtain⟨rfl,rfl⟩:=hcut;generalize htb:decide (0<n/\ok=true)=tb at*;have HTB:=az htb;clear htb;go_upto_if 64 with fail;go_cut [65] from 65 to 77 (λ_ wx=>∃Z,Hid (aQ aA w f X wx Z/\Z.view=(F1.dE sl n ⟨qb,qp⟩).dC n/\(Z.bs=X.bs/\Z.bn=X.bn/\Z.bg=X.bg)/\Ap f Z wx g/\jR X.bs X.bn g L wx))
   case first =>
    cases tb
    ·go_wp2;go_meet;exact⟨Y7,az ⟨C8.o,by rw[Wp.o,Zz.o,if_neg (of_decide_eq_false HTB.o)],HM7.o,Yl.o.2,abR.o⟩⟩
    go_upto_region 13 with fail;have HD:=az (C8.o.at_.old au);obtain⟨ob,op,L5,Dx⟩:∃ob op:Int,(Instr.lookup 149 (.map (some Y7.bs)) (.int .u32 n) false).run prog wc.drew=.ok (.agg #[vi ob,vi op]) wc.drew/\(MP.get Y7.S n).getD default=⟨ob,op⟩:=by
     have h:=HD.o.bD.lookup underlying149 underlying118 (vR _) n;cases hg:MP.get Y7.S n with
     |none=>rw[hg]at h;exact⟨0,0,h,rfl⟩
     |some p=>rw[hg]at h;exact⟨p.block,p.aB,h,rfl⟩
    have ZC:=az Dx;obtain⟨we,rG,hm,hgr⟩:=rE HD.o.gone n ob op;have hgg:=HD.o.zM hgr hm;have AX:=az ((C8.o.old au).trans hgg);have HAE:=az (ae7 ((Yl.o.1.old au).goes hgg) ((Yl.o.2.old au).goes hgg));have ai8:Hid (jR X.bs X.bn g L we):=az (jR.goes (λi hi c u hu=>cell_below (abR.o i hi c u hu) au) (Yl.o.2.old au) hgg);have HXE:=az ((Yl.o.1.old au).blk hgg (zP.o.old au));have hup:=rG.run;have fV:Hid (wc.drew.cell? ⟨f,7,none⟩=some (.map (some Y7.bg))/\wc.drew.cell? ⟨f,5,none⟩=some (.map (some Y7.bs))/\wc.drew.cell? ⟨x,1,none⟩=some (.int .u32 n)):=az ⟨HD.o.obj.cell 7,HD.o.obj.cell 5,x1⟩
    have HS2:Hid (we.cell? ⟨f,7,none⟩=some (.map (some Y7.bg))/\we.cell? ⟨f,5,none⟩=some (.map (some Y7.bs))/\we.cell? ⟨x,1,none⟩=some (.int .u32 n)):=az ⟨AX.o.at_.obj.cell 7,AX.o.at_.obj.cell 5,HXE.o.cell 1⟩;clear Dx rG hm hgr hgg x1 HXE HD;go_region_held3 (λW=>W.cell? ⟨f,7,none⟩=some (.map (some Y7.bg))/\W.cell? ⟨f,5,none⟩=some (.map (some Y7.bs))/\W.cell? ⟨x,1,none⟩=some (.int .u32 n))
     (first|exact fV.o|exact HS2.o)
     (fail)
    all_goals
     go_wp2;go_meet;exact⟨_,az ⟨AX.o,by
      rw[Zz.o,if_pos (of_decide_eq_true HTB.o),ZC.o,<-Wp.o],HM7.o,HAE.o.2,ai8.o⟩⟩
   case rest =>
   obtain⟨Z,hcut⟩:=hcut;have IB:=az hcut.o.1;have HVZ:=az hcut.o.2.1;have HMZ:=az hcut.o.2.2.1;have HAZ:=az hcut.o.2.2.2.1;have Zo:=az hcut.o.2.2.2.2;have HKZ:Hid (Z.G.view.ok Z.M.view/\Z.M.P<=32):=az (by
    have e1:Z.M.view=F1.c:=by
     have h1:=congrArg FP.Ft.c HVZ.o
     rw[FP.jA]at h1
     refine h1.trans ?_
     dsimp only
     unfold FP.Ft.dE
     split<;>rfl
    have e2:Z.G.view=F1.g:=by
     have h1:=congrArg FP.Ft.g HVZ.o
     rw[FP.jA]at h1
     refine h1.trans ?_
     dsimp only
     unfold FP.Ft.dE
     split<;>rfl
    refine⟨by rw[e1,e2];exact abO.o.2.1,?_⟩
    have e3:Z.M.P=F1.c.P:=congrArg NP.bX.P e1
    have:=sM abO.o.1.ok
    omega)
   have HDR:=az (mgr.rq IB.o.at_.held HKZ.o.1 HKZ.o.2 k);have c1:wc.cell? ⟨f,1,none⟩=some (ptr Z.m):=IB.o.at_.obj.cell 1;clear hcut HTB C8 zP Yl abR x1 Zz Wp HM7 vM abO;go_wp2_with fail;refine HDR.o.mono ?_;rintro e w9 ⟨rfl,TI⟩;have Ym:=IB.o.at_.goes TI;have HST:Hid (abN aA w f X k g L DK (j+1) w9 {Z with G:=Z.G.lay (Z.G.view.drop k).2}):=az (by
    have hv:({Z with G:=Z.G.lay (Z.G.view.drop k).2}:dm).view=V1:=by
     rw[ZF.o,<-HVZ.o]
    exact⟨IB.o.trans Ym,HMZ.o,by rw[hv];exact HI1.o,by rw[hv];exact lF.o,Zo.o.goes HAZ.o Ym,λ_=>HAZ.o.goes Ym⟩)
   have r2:adk.wrap ((j:Int)+1)=((j+1:Nat):Int):=by rw[adl _ (by have h1:=ig.o;have h2:=XP.o;omega)];omega
   clear TI Ym c1 HDR IB HVZ HMZ HAZ Zo HKZ;go_wp2;go_roundw
   case rel=>exact⟨j+1,ig.o,rfl,_,HST⟩
   case measure=>have:=ig.o;simp[intOf];omega
  obtain rfl:j=L.length:=aa;have n1:¬((L.length:Nat):Int)<((L.length:Nat):Int):=aa;have abJ:Hid (Y.view=DK):=az (by
   have h1:=hst.o.run
   rw[List.drop_length]at h1
   injection h1)
  clear hj hlt;go_wp2;go_ret;exact⟨rfl,Y,hst.o.goes,abJ.o,hst.o.maps⟩
end
variable{k:Nat}
def Yn (h:bP aA w f X)(hS:FP.Sound X.view)(hbase:aA<=w.heap.size)(r:Int×FP.Ft)(hq:X.view.act=some r) :
  ac4 prog 170 #[ptr f,.agg #[vi X.view.next.1,vi X.view.next.2]] w (dY aA w f X r):=by
 have HB:Hid (acN w.heap.size w (w.alloc (ach #[vi X.view.next.1,vi X.view.next.2] 229))):=az ax;have FB:Hid (aD (w.alloc (ach #[vi X.view.next.1,vi X.view.next.2] 229)) w.heap.size 229 #[vi X.view.next.1,vi X.view.next.2]):=az (aD.new _ _ _);rcases FP.qP hS with⟨h0,h1⟩|⟨k,f1,f',h0,h1,h2,h3,E⟩
 ·rw[h1]at hq;injection hq with hq;subst hq;have HG:=az (aQ.aX h HB.o);rw[h0]at HB FB HG ⊢;generalize X.view.next.2=k2 at*;clear h hS h1 h0;go_in;go_upto_region 1 with fail;change Code.wp _ _ _ _ (w.alloc (ach #[vi 0,vi k2] 229));generalize w.alloc (ach #[vi 0,vi k2] 229)=w1 at*;have c0:w1.cell? ⟨w.heap.size,0,none⟩=some (vi 0):=FB.o.cell 0;go_wp2;go_ret;exact dY.mk rfl HG.o rfl
 rw[h3]at hq;injection hq with hq;subst hq;have hI:Co k (X.view.needed k) X.view:=by
  obtain⟨k',hk1,hk2,hk3,hk4,_⟩:=FP.NC hS h0;have:k'=k:=by rw[h1]at hk1;omega
  subst this;exact⟨hS,hk2,rfl,hk3,hk4⟩
 have HMV:=az (Vh (h.old HB.o) hS hI f1 E.move (abX hbase HB.o.size));have HE:=az E;have FV:=az (aQ.aX h HB.o);have HA:=az (Ap.new h (ach #[vi X.view.next.1,vi X.view.next.2] 229));rw[h1]at HB FB HMV FV HA ⊢;generalize X.view.next.1=kd at*;clear h hS h1 h3 hI E;go_in;go_upto_region 1 with fail;change Code.wp _ _ _ _ (w.alloc (ach #[vi kd,vi k] 229));generalize w.alloc (ach #[vi kd,vi k] 229)=w1 at*;have c0:w1.cell? ⟨w.heap.size,0,none⟩=some (vi kd):=FB.o.cell 0;have c1:w1.cell? ⟨w.heap.size,1,none⟩=some (vi k):=FB.o.cell 1;have hkd:((kd:Int)==0)=false:=beq_eq_false_iff_ne.2 h0
 go_wp2_with fail;refine HMV.o.mono ?_;rintro e w2 ⟨X2,rfl,hg2,hv2,_⟩;have HG2:=az (FV.o.trans hg2);have lM:=az (dm.fit_of hv2 HE.o.mid.1.fit);have c1:w2.cell? ⟨w.heap.size,1,none⟩=some (vi k):=HA.o.cell hg2 c1;have HWP:=az (Vd HG2.o.at_ lM.o k (by
  have e:X2.M.B=f1.c.B:=congrArg (λv:FP.Ft=>v.c.B) hv2
  rw[e]
  exact HE.o.mid.2) f' (by rw[hv2];exact HE.o.Gm))
 clear hg2 hv2 HMV FV HA c0 hkd;go_wp2_with fail;refine HWP.o.mono ?_;rintro e w3 ⟨X3,rfl,hg3,hv3⟩;have iR:=az (HG2.o.trans hg3);have CV:=az hv3;clear hg3 hv3 HWP;go_wp2;go_ret;exact dY.mk rfl iR.o CV.o
variable{w':acL}
structure abS (aA:Nat)(w:acL)(f:Nat)(X:dm)(r:Int×FP.Ft)(n:Nat)(wr:acL)(Y:dm):Prop where
 goes:aQ aA w f X wr Y
 sound:FP.Sound Y.view
 run:FP.ensureTo n Y.view=some r
def zF {n:Nat}{r:Int×FP.Ft}(h:FP.ensureTo (n+1) F=some r)(he:FP.enough F.g F.c.P=true):r=(0,F):=by
 unfold FP.ensureTo at h;rw[if_pos he]at h;injection h with h;exact h.symm
def Gt {n:Nat}{r:Int×FP.Ft}(h:FP.ensureTo (n+1) F=some r)(he:FP.enough F.g F.c.P=false):∃e F1,F.act=some (e,F1)/\(e=0->FP.ensureTo n F1=some r)/\(e≠0->r=(e,F1)):=by
 unfold FP.ensureTo at h;rw[if_neg (by rw[he];simp)]at h;cases ha:F.act with
 |none=>rw[ha]at h;cases h
 |some q =>
  obtain⟨e,F1⟩:=q;rw[ha]at h;refine⟨e,F1,rfl,λe0=>?_,λe0=>?_⟩;dsimp only at h;rw[if_pos e0]at h;exact h;dsimp only at h;rw[if_neg e0]at h;injection h with h;exact h.symm
def Qb {F1:FP.Ft}{e:Int}(hS:FP.Sound F)(h:F.act=some (e,F1)):FP.Sound F1:=by
 rcases FP.qP hS with⟨_,h1⟩|⟨k,f1,f',_,_,_,h3,E⟩;rw[h1]at h;injection h with h;injection h with _ h;rw[<-h];exact hS;rw[h3]at h;injection h with h;injection h with _ h;rw[<-h];exact E.sound
def LK (h:bP aA w f X)(hS:FP.Sound X.view)(hbase:aA<=w.heap.size)(r:Int×FP.Ft)(hq:X.view.Cf=some r):ac4 prog 144 #[ptr f] w (dY aA w f X r):=by
 obtain⟨c0,_⟩:=h.cells;have H:=az h;have hx:X.Fit:=hS.fit;have hd:=hx.bI;have hm1:8*X.M.B*X.M.P<=8*128*32:=Nat.mul_le_mul aa aa;have hz:(8:Int)*(X.M.B:Int)*(X.M.P:Int)=((8*X.M.B*X.M.P:Nat):Int):=ai;obtain⟨N,hN⟩:∃N,N=8*X.M.B*X.M.P:=⟨_,rfl⟩;have q1:adk.wrap (8*(X.M.B:Int))=8*(X.M.B:Int):=adl _ aa;have q2:adk.wrap (8*(X.M.B:Int)*(X.M.P:Int))=(N:Int):=by rw[hz,hN];exact adl _ aa
 have HST:Hid (FP.Sound X.view/\FP.ensureTo N X.view=some r):=az ⟨hS,by rw[hN];exact hq⟩;have GK:Hid (N<=32768):=az aa;clear h hx hS hq hz hm1 hN hd;go_in;go_wp2_with fail;refine(iZ H.o.held.aW).mono ?_;rintro e w1 ⟨rfl,hb1⟩;have HB1:Hid (acN w.heap.size w (w1.alloc (ach #[vi X.M.B,vi X.M.P,vi X.M.S] 103))):=az (hb1.alloc hb1.size _);have HE1:Hid (abS aA w f X r N (w1.alloc (ach #[vi X.M.B,vi X.M.P,vi X.M.S] 103)) X):=az ⟨aQ.aX H.o HB1.o,HST.o.1,HST.o.2⟩;clear hb1 c0 HST HB1;go_wp2_with fail;go_loopw [16] (λi wr=>∃j:Nat,j<=N/\i=vi j/\∃Y,Hid (abS aA w f X r (N-j) wr Y)) (λi _=>N-(intOf i).toNat)
 case atStart=>exact⟨0,Nat.zero_le _,rfl,X,HE1⟩
 case round =>
  clear HE1;obtain⟨j,hj,rfl,Y,hst⟩:=hrel;by_cases hlt:j<N
  ·have n1:(j:Int)<(N:Int):=aa;have HY:Hid Y.Fit:=az hst.o.sound.fit;have lF:Hid (FP.ensureTo (N-(j+1)+1) Y.view=some r):=az (by rw[show N-(j+1)+1=N-j by omega];exact hst.o.run);have ig:=az hlt;clear hj hlt;go_wp2_with fail;refine(Kw hst.o.goes.at_ HY.o).mono ?_;rintro e w2 ⟨rfl,hb2⟩;have HG2:=az (hst.o.goes.old hb2);have HS2:=az hst.o.sound;clear hb2 hst;cases hen:FP.enough Y.G.view Y.M.P with
   |true =>
    have HR:=az (zF lF.o hen);clear hen;go_wp2;go_ret;exact dY.mk HR.o HG2.o rfl
   |false =>
    obtain⟨ea,F1,ha,h0,h1⟩:=Gt lF.o hen;have c1:w2.cell? ⟨f,1,none⟩=some (ptr Y.m):=HG2.o.at_.obj.cell 1;have iH:=az (mgr.Aq HG2.o.at_.held HY.o.fit (by have h1:=HY.o.WS;have h2:=HY.o.bI;omega));have HNV:Hid (AU Y.G Y.M.P=Y.view.next):=az (Sc rfl _);have HAS:=az (Qb HS2.o ha);have HA:=az ha;have H0:=az h0;have H1:=az h1;clear hen ha h0 h1;rw[HNV.o]at iH;go_wp2_with fail;refine iH.o.mono ?_;rintro e w3 ⟨rfl,hb3⟩;have iR:=az (HG2.o.old hb3);have Xz:=az (Yn (HG2.o.old hb3).at_ HS2.o (abX hbase (HG2.o.old hb3).size) (ea,F1) HA.o)
    clear hb3 iH c1;generalize Y.view.next=nx at*;go_wp2_with fail;refine Xz.o.mono ?_;rintro e w4 ⟨Y4,rfl,hg4,hv4⟩;have qK:=az (iR.o.trans hg4);have HV4:=az hv4;clear hg4 hv4 Xz;dsimp only;by_cases he0:ea=0
    ·subst he0;have HE4:Hid (abS aA w f X r (N-(j+1)) w4 Y4):=az ⟨qK.o,by rw[HV4.o];exact HAS.o,by rw[HV4.o];exact H0.o rfl⟩;have r2:adk.wrap ((j:Int)+1)=((j+1:Nat):Int):=by rw[adl _ (by have h1:=ig.o;have h2:=GK.o;omega)];omega
     go_wp2;go_roundw
     case rel=>exact⟨j+1,ig.o,rfl,Y4,HE4⟩
     case measure=>have:=ig.o;simp[intOf];omega
    have hne:((ea:Int) != 0)=true:=bne_iff_ne.2 he0;have HR:=az (H1.o he0);clear he0;go_wp2;go_ret;exact dY.mk HR.o qK.o HV4.o
  obtain rfl:j=N:=aa;have n1:¬(j:Int)<(j:Int):=aa;have HR:Hid (r=(40,Y.view)):=az (by
   have h1:=hst.o.run
   rw[Nat.sub_self]at h1
   unfold FP.ensureTo at h1
   injection h1 with h1
   exact h1.symm)
  clear hj hlt;go_wp2;go_ret;exact dY.mk HR.o hst.o.goes rfl
variable{r:(FP.cB×Int)×FP.Ft}
def ym {aL:Int}{aB:Nat}{b:List Nat}(h:F.xZ aL aB b=some r):F.later.all (λx=> !x)=true/\∃e1 f1,F.Cf=some (e1,f1) /\
  ((e1≠0/\r=((⟨0,0⟩,e1),f1))\/(e1=0/\∃p f2,f1.put aL aB b=some (p,f2)/\r=((p,0),f2))):=by
 unfold FP.Ft.xZ at h;split at h;rename_i hl;refine⟨hl,?_⟩;cases he:F.Cf with
 |none=>rw[he]at h;cases h
 |some q =>
  obtain⟨e1,f1⟩:=q;rw[he]at h;dsimp only at h;refine⟨e1,f1,rfl,?_⟩;by_cases e0:e1=0;rw[if_neg (by simp[e0])]at h;cases hp:f1.put aL aB b with
  |none=>rw[hp]at h;cases h
  |some q =>
   obtain⟨p,f2⟩:=q;rw[hp]at h;injection h with h;exact acm ⟨e0,p,f2,rfl,h.symm⟩
  rw[if_pos e0]at h;injection h with h;exact ack ⟨e0,h.symm⟩
 cases h
def Vi (aA:Nat)(w:acL)(f:Nat)(X:dm)(r:(FP.cB×Int)×FP.Ft)(e:Ending)(w':acL):Prop :=
 ∃X',e=ab4 (adg #[dz r.1.1,vi r.1.2])/\aQ aA w f X w' X'/\X'.view=r.2
def Vi.mk {X':dm}{x y n:Int}(hr:r=((⟨x,y⟩,n),V))(hg:aQ aA w f X w' X')(hv:X'.view=V):Vi aA w f X r (ab4 (adg #[.agg #[vi x,vi y],vi n])) w' :=
 ⟨X',by rw[hr],hg,by rw[hr];exact hv⟩
def sI (h:bP aA w f X)(hS:FP.Sound X.view)(hbase:aA<=w.heap.size)(aL:Int)(aB:Nat)(a:Option Addr)(b:List Nat)(c:Nat)(hr:dx aA w a b)(hl:b.length<=900000)(r:(FP.cB×Int)×FP.Ft)(hq:X.view.xZ aL aB b=some r) :
  ac4 prog 115 #[ptr f,.agg #[vi aL,vw aB,vq 0,vq 0],aco a b.length c] w (Vi aA w f X r):=by
 obtain⟨q1,e1,f1,q2,q3⟩:=ym hq;clear hq;have vz:Hid (X.later.all (λx=> !x)=true):=az q1;have HQ3:=az q3;have HSF:Hid (FP.Sound f1):=az (by
  obtain⟨e',f',h1,h2,_⟩:=FP.tL hS
  rw[q2]at h1
  injection h1 with h1
  injection h1 with _ h1
  rw[h1];exact h2)
 clear q1 q3;have F1:Hid (aD ((w.alloc (ach #[vi aL,vw aB,vq 0,vq 0] 170)).alloc (ach #[vi 0,vi 0] 165)) w.heap.size 170 #[vi aL,vw aB,vq 0,vq 0]):=az ((aD.new _ _ _).alloc _);have F2:Hid (aD ((w.alloc (ach #[vi aL,vw aB,vq 0,vq 0] 170)).alloc (ach #[vi 0,vi 0] 165)) (w.heap.size+1) 165 #[vi 0,vi 0]):=az (by
  have:=aD.new (w.alloc (ach #[vi aL,vw aB,vq 0,vq 0] 170)) 165 #[vi 0,vi 0]
  rwa[size_alloc]at this)
 have HB:Hid (acN w.heap.size w ((w.alloc (ach #[vi aL,vw aB,vq 0,vq 0] 170)).alloc (ach #[vi 0,vi 0] 165))):=az (ax.alloc ai _);have HA:Hid (Ap f X ((w.alloc (ach #[vi aL,vw aB,vq 0,vq 0] 170)).alloc (ach #[vi 0,vi 0] 165)) w.heap.size/\Ap f X ((w.alloc (ach #[vi aL,vw aB,vq 0,vq 0] 170)).alloc (ach #[vi 0,vi 0] 165)) (w.heap.size+1)) :=
  az ⟨⟨λe=>by have:=h.lt _ e;omega,by simp;omega⟩,⟨λe=>by have:=h.lt _ e;omega,ai⟩⟩
 have H0:=az h;have H:=az (h.old HB.o);have HX:=az hS;have HR:=az (hr.old HB.o);clear h hS hr;go_in;go_wp2_with fail;generalize (w.alloc (ach #[vi aL,vw aB,vq 0,vq 0] 170)).alloc (ach #[vi 0,vi 0] 165)=w0 at*;obtain⟨tb,htb⟩:∃tb,tb=w.heap.size:=⟨_,rfl⟩;have wU:Hid (w.heap.size<=tb/\w.heap.size<=tb+1/\tb≠tb+1):=az aa;rw[<-htb]at F1 F2 HA ⊢;clear htb;generalize tb+1=qb at*;refine(Iz H.o HX.o.fit vz.o).mono ?_;rintro e w1 ⟨rfl,hb1⟩;have HB1:=az (HB.o.trans (hb1.mono HB.o.size));have H1:=az (H.o.old hb1);have F11:=az (F1.o.old hb1);have F21:=az (F2.o.old hb1)
 have HR1:=az (HR.o.old hb1);have HA1:=az (ae7 (HA.o.1.old hb1) (HA.o.2.old hb1));have FL:=az (LK H1.o HX.o (abX hbase HB1.o.size) (e1,f1) q2);clear hb1 HB H F1 F2 HR HA q2;go_wp2_with fail;refine FL.o.mono ?_;rintro e w2 ⟨X2,rfl,hg2,hv2⟩;dsimp only at hv2;subst hv2;have HG2:=az ((aQ.aX H0.o HB1.o).trans hg2);have F12:=az (HA1.o.1.blk hg2 F11.o);have F22:=az (HA1.o.2.blk hg2 F21.o);have HA2:=az (ae7 (HA1.o.1.goes hg2) (HA1.o.2.goes hg2));have HR2:=az (HR1.o.fD hg2.aJ H1.o.loose);clear hg2 HB1 H1 F11 F21 HR1 HA1 FL;dsimp only;rcases HQ3.o with⟨he,hr⟩|⟨rfl,p,f2,hp,hr⟩
 ·have HE:=az hr;have hne:((e1:Int) != 0)=true:=bne_iff_ne.2 he;clear he hr HQ3;obtain⟨d0,d1,f0,f1'⟩:=bO F22.o;go_wp2_with fail;refine bodyPost_ret (Bc ((F22.o.bB 0 (vi 0)).bB 1 (vi 0)) _ rfl rfl) rfl (Vi.mk HE.o (HG2.o.iT (nH _ _ HG2.o.size wU.o.2.1) ?_) rfl);exact HG2.o.at_.aJ (lY _ _ _ _ _ _) (λn e=>by subst e;exact Loose.blk (abX hbase wU.o.2.1) F22.o) (λn e e2=>HA2.o.2.1 (e2▸e))
 obtain⟨_,_,p3,p4,p5,p6⟩:=Bd hp;have HE:=az hr;have Wn:=az p4;have Ex:=az p5;have Ps:=az p6;have QQ:=(D9 p3).1;dsimp only[dm.view]at p3 Wn Ex Ps QQ;have lX:=az (rC (t:=⟨aL,aB,X2.seq,X2.aM⟩) HR2.o.row.small);have abV:Hid (Loose aA w2 tb):=az (Loose.blk (abX hbase wU.o.1) F12.o);clear hp hr HQ3 p4 p5 p6;go_upto_region 7 with fail;have c8:w2.cell? ⟨f,8,none⟩=some (vq X2.seq):=HG2.o.at_.obj.cell 8;have c9:w2.cell? ⟨f,9,none⟩=some (vq X2.aM):=HG2.o.at_.obj.cell 9;have g2:=F12.o.frozen 2;have g3:=F12.o.frozen 3;have d2:w2.cell? ⟨tb,2,none⟩=some (vq 0):=F12.o.cell 2
 have d3:w2.cell? ⟨tb,3,none⟩=some (vq 0):=F12.o.cell 3;have hfn:¬f=tb:=λe=>HA2.o.1.1 (ack e.symm)
 have HS:Hid (w2.drew.cell? ⟨f,8,none⟩=some (vq X2.seq)/\w2.drew.cell? ⟨f,9,none⟩=some (vq X2.aM)):=az ⟨c8,c9⟩;have hset:=lY w2 tb 2 3 (vq X2.seq) (vq X2.aM);have iR:Hid (aQ aA w f X ((w2.setCell ⟨tb,2,none⟩ (vq X2.seq)).setCell ⟨tb,3,none⟩ (vq X2.aM)).drew X2):=az (by
  have h1:=HG2.o.iT (nH (i:=2) (j:=3) (vq X2.seq) (vq X2.aM) HG2.o.size wU.o.1) (HG2.o.at_.aJ hset (λn e=>by subst e;exact abV.o) (λn e e2=>HA2.o.1.1 (e2▸e)))
  exact h1.old au)
 have F13:Hid (aD ((w2.setCell ⟨tb,2,none⟩ (vq X2.seq)).setCell ⟨tb,3,none⟩ (vq X2.aM)).drew tb 170 #[vi aL,vw aB,vq X2.seq,vq X2.aM]):=az ((F12.o.bB 2 _).bB 3 _);have F23:=az (F22.o.aJ hset.drew (λe=>wU.o.2.2 e.symm));have HR3:=az (HR2.o.fD hset.drew (λn e=>by subst e;exact abV.o));have OQ:Hid (Ap f X2 ((w2.setCell ⟨tb,2,none⟩ (vq X2.seq)).setCell ⟨tb,3,none⟩ (vq X2.aM)).drew qb):=az ⟨HA2.o.2.1,by have:=HA2.o.2.2;simpa[acL.setCell] using this⟩;have nS:Hid (∀(W:acL) j u,(W.cell? ⟨f,8,none⟩=some (vq X2.seq)/\W.cell? ⟨f,9,none⟩=some (vq X2.aM))->((W.setCell ⟨tb,j,none⟩ u).cell? ⟨f,8,none⟩=some (vq X2.seq)/\(W.setCell ⟨tb,j,none⟩ u).cell? ⟨f,9,none⟩=some (vq X2.aM))) :=
  az (λW j u h=>⟨(acL.cell?_setCell_other _ _ _ _ (λe=>hfn (by injection e with e1;exact e1.symm))).trans h.1,(acL.cell?_setCell_other _ _ _ _ (λe=>hfn (by injection e with e1;exact e1.symm))).trans h.2⟩)
 clear hset;go_region_held3 (λw'=>w'.cell? ⟨f,8,none⟩=some (vq X2.seq)/\w'.cell? ⟨f,9,none⟩=some (vq X2.aM))
  (first|exact HS.o|exact nS.o _ _ _ HS.o|exact nS.o _ _ _ (nS.o _ _ _ HS.o))
  (fail)
 change Exit.then _ _ _ _ ((w2.setCell ⟨tb,2,none⟩ (vq X2.seq)).setCell ⟨tb,3,none⟩ (vq X2.aM)).drew;clear HS c8 c9 g2 g3 d2 d3 nS F12 F22 HR2 HG2 HA2 abV hfn;generalize ((w2.setCell ⟨tb,2,none⟩ (vq X2.seq)).setCell ⟨tb,3,none⟩ (vq X2.aM)).drew=w3 at*;have d0:w3.cell? ⟨tb,0,none⟩=some (vi aL):=F13.o.cell 0;have d1:w3.cell? ⟨tb,1,none⟩=some (vw aB):=F13.o.cell 1;have d2:w3.cell? ⟨tb,2,none⟩=some (vq X2.seq):=F13.o.cell 2;have d3:w3.cell? ⟨tb,3,none⟩=some (vq X2.aM):=F13.o.cell 3;go_wp2_with fail;refine(Ku ⟨aL,aB,X2.seq,X2.aM⟩ a b c w3 HR3.o.row hl).mono ?_;rw[p3]
 rintro e w4 ⟨v4,rfl,zm,hb4⟩;obtain⟨a4,k4,rfl,hs4,hl4,hc4,_⟩:=zm.Db (aA:=aA) lX.o;have qK:=az (iR.o.old hb4);have F24:=az (F23.o.old hb4);have GJ:=az (OQ.o.old hb4);have vB:=az hs4;clear hb4 zm hs4 iR F13 F23 HR3 OQ d0 d1 d2 d3;have c8:w4.cell? ⟨f,8,none⟩=some (vq X2.seq):=qK.o.at_.obj.cell 8;have f8:=qK.o.at_.obj.frozen 8;have Zp:=az (qK.o.at_.field (X':={X2 with seq:=X2.seq+1}) 8 (vq (X2.seq+1)) rfl ⟨rfl,rfl,rfl⟩ ⟨qK.o.at_.text,qK.o.at_.lC⟩ ⟨rfl,rfl⟩ ⟨rfl,rfl⟩ ⟨rfl,rfl⟩ ⟨rfl,rfl,rfl⟩ (abX hbase qK.o.size));have F25:=az (GJ.o.blk Zp.o F24.o)
 have zo:=az (GJ.o.goes Zp.o);have mY:=az (vB.o.fD Zp.o.aJ qK.o.at_.loose);have Bl:=az (qK.o.trans Zp.o);have abW:((X2.seq:Int)+1)%18446744073709551616=(X2.seq:Int)+1:=aa;go_upto_region 12 with fail;change Code.wp _ _ _ _ (w4.setCell ⟨f,8,none⟩ (vq (X2.seq+1)));clear c8 f8 abW F24 vB qK Zp GJ;generalize w4.setCell ⟨f,8,none⟩ (vq (X2.seq+1))=w5 at*;have Nc:Hid (gW X2.M.view/\X2.G.view.ok X2.M.view):=az ⟨HSF.o.cg.good,HSF.o.cg.lL⟩;have zU:=az (Dl Bl.o.at_ Nc.o.1 Nc.o.2 a4 _ k4 mY.o Wn.o (abX hbase Bl.o.size));dsimp only[dm.view]at zU
 rw[<-Ex.o]at zU;clear Wn Ex;generalize (TP.write ⟨aL,aB,X2.seq,X2.aM⟩ b).1=wl at*;go_wp2_with fail;refine zU.o.mono ?_;rintro e w6 ⟨X6,rfl,uy,hv6⟩;have F26:=az (zo.o.blk uy F25.o);have HA6:=az (zo.o.goes uy);have O5:=az (Bl.o.trans uy);have UC:Hid (X6.view=f2):=az (by rw[hv6,Ps.o]);clear uy hv6 zU Bl zo F25;obtain⟨pb,pp⟩:=p;obtain⟨d0,d1,f0,f1⟩:=bO F26.o;go_wp2_with fail;refine bodyPost_ret (Bc ((F26.o.bB 0 (vi pb)).bB 1 (vi pp)) _ rfl rfl) rfl (Vi.mk HE.o (O5.o.iT (nH _ _ O5.o.size wU.o.2.1) ?_) UC.o);exact O5.o.at_.aJ (lY _ _ _ _ _ _) (λn e=>by subst e;exact Loose.blk (abX hbase wU.o.2.1) F26.o) (λn e e2=>HA6.o.1 (e2▸e))
def writeG_eq (F:FP.Ft)(aB:Nat)(b:List Nat):F.Cg aB b=if F.logical aB≠0 then some (F.logical aB,F) else if b.length≠F.c.S then some (1,F) else if F.shut then some (41,F) else
  if MP.has F.now aB=false/\F.cap<=F.used then some (40,F) else
  match F.xZ 1 aB b with
  |none=>none
  |some ((p,e),f1)=>if e≠0 then some (e,f1) else some (0,{older f1 aB with now:=MP.put f1.now aB p,gone:=MP.del f1.gone aB}):=rfl
def Vj {aL:Int}{aB:Nat}{b:List Nat}{p:FP.cB}{e:Int}(hS:FP.Sound F)(hb:∀y∈b,y<256)(h:F.xZ aL aB b=some ((p,e),V)):Fit V:=by
 obtain⟨_,e1,f1,h1,h2⟩:=ym h;obtain⟨e',f',h3,h4,_⟩:=FP.tL hS;rw[h1]at h3;injection h3 with h3;injection h3 with _ h3;subst h3;rcases h2 with⟨_,h5⟩|⟨_,p',f2,h5,h6⟩;injection h5 with _ h5;rw[h5];exact h4.fit;injection h6 with _ h6;rw[h6];exact(Fit.put h4.fit hb h5).1
def oM (h:bP aA w f X)(hS:FP.Sound X.view)(hbase:aA<=w.heap.size)(aB:Nat)(hp:aB<4294967296)(a:Option Addr)(b:List Nat)(c:Nat)(hr:dx aA w a b)(hl:b.length<=900000)(r:Int×FP.Ft)(hq:X.view.Cg aB b=some r) :
  ac4 prog 75 #[ptr f,vw aB,aco a b.length c] w (dY aA w f X r):=by
 have H:=az h;have HX:Hid X.Fit:=az hS.fit;have HSX:=az hS;have HR:=az hr;rw[writeG_eq]at hq;have jS:Hid (X.view.c.S=X.M.S):=az rfl;rw[jS.o]at hq;have HQ:=az hq;clear h hS hr hq;go_in;go_wp2_with fail;refine(rA H.o HX.o aB hp).mono ?_;rintro e w1 ⟨rfl,hb1⟩;have HB1:=az hb1;have H1:=az (H.o.old hb1);clear hb1;generalize X.view.logical aB=lg at*;by_cases h0:lg=0
 ·subst h0;have HQ:Hid _:=az ((if_neg ai).symm.trans HQ.o);have c6:w1.cell? ⟨f,6,none⟩=some (.map (some X.bn)):=H1.o.obj.cell 6;obtain⟨pb,pp,ok,L,hsome,hnone⟩:=vV H1.o.now aB;have vM:Hid (MP.has X.N aB=ok):=az (by
   unfold MP.has
   cases ok
   rw[hnone rfl];rfl
   rw[hsome rfl];rfl)
  clear hsome hnone;go_upto_region 5 with fail;have H2:Hid (bP aA (w1.alloc (ach #[vi pb,vi pp] 165)) f X):=az (H1.o.old ax);have HB2:Hid (acN w.heap.size w (w1.alloc (ach #[vi pb,vi pp] 165))):=az (HB1.o.alloc HB1.o.size _);clear L H1 HB1 c6;generalize w1.alloc (ach #[vi pb,vi pp] 165)=w2 at*;go_wp2_with fail;refine(Iy H2.o).mono ?_;rintro e w3 ⟨rfl,hb3⟩;have HB3:=az (HB2.o.trans (hb3.mono HB2.o.size));have H3:=az (H2.o.old hb3);clear hb3 H2 HB2;by_cases hS:b.length=X.M.S
  ·have HQ:Hid _:=az ((if_neg (by simpa using hS)).symm.trans HQ.o);have hS':((b.length:Int) != (X.M.S:Int))=false:=by simp[hS]
   have HS:=az hS;clear hS;go_wp2_with fail;refine(vS H3.o HX.o).mono ?_;rintro e w4 ⟨rfl,hb4⟩;have pI:=az (HB3.o.trans (hb4.mono HB3.o.size));have H4:=az (H3.o.old hb4);clear hb4 H3 HB3;generalize X.view.shut=sh at*;cases sh
   ·have HQ:Hid _:=az ((if_neg ai).symm.trans HQ.o);go_upto_region 9 with fail;go_cut [38] from 39 to 86 (λv wx=>v=.bool (decide (MP.has X.N aB=false/\X.view.cap<=X.view.used))/\Hid (acN w.heap.size w wx))
    case first =>
     cases ok
     ·go_wp2_with fail;refine(SL H4.o HX.o).mono ?_;rintro e w5 ⟨rfl,hb5⟩;have qG:=az (pI.o.trans (hb5.mono pI.o.size));have H5:=az (H4.o.old hb5);clear hb5;go_wp2_with fail;refine(pF H5.o HX.o).mono ?_;rintro e w6 ⟨rfl,hb6⟩;have uC:=az (qG.o.trans (hb6.mono qG.o.size));clear hb6 H5 qG;generalize hce:X.view.cap=cp;generalize hue:X.view.used=us;have HCE:=az hce;have HUE:=az hue;clear hce hue;by_cases hcu:cp<=us
      ·go_wp2;go_meet;exact⟨by rw[vM.o,HCE.o,HUE.o];first|(simp;done)|simp[hcu],uC⟩
      go_wp2;go_meet;exact⟨by rw[vM.o,HCE.o,HUE.o];first|(simp;done)|simp[hcu],uC⟩
     go_wp2;go_meet;exact⟨by rw[vM.o];simp,pI⟩
    case rest =>
    obtain⟨rfl,HBC⟩:=hcut;have HC:=az (H.o.old HBC.o);have HGC:=az (aQ.aX H.o HBC.o);have Wd:=az (HR.o.old HBC.o);clear H4 pI HR vM;by_cases hbad:MP.has X.N aB=false/\X.view.cap<=X.view.used
    ·have HQ:Hid _:=az ((if_pos hbad).symm.trans HQ.o);rw[decide_eq_true hbad];clear hbad;go_wp2;go_ret;exact dY.mk (by have:=HQ.o;cases this;rfl) HGC.o rfl
    have HQ:Hid _:=az ((if_neg hbad).symm.trans HQ.o);rw[decide_eq_false hbad];clear hbad;cases hput:X.view.xZ 1 aB b with
    |none =>
     rw[hput]at HQ;cases HQ.o
    |some q =>
     obtain⟨⟨⟨qb,qp⟩,e0⟩,V⟩:=q;rw[hput]at HQ;have zU:=az (sI HC.o HSX.o (abX hbase HBC.o.size) 1 aB a b c Wd.o hl _ hput);have HFV:Hid (Fit V):=az (Vj HSX.o Wd.o.row.small hput);clear hput;go_wp2_with fail;refine zU.o.mono ?_;rintro e w7 ⟨X7,rfl,yO,hv7⟩;dsimp only at hv7 ⊢;have Dp:=az (HGC.o.trans yO);have Wp:=az hv7;have BG:=az (dm.fit_of hv7 HFV.o);clear yO hv7 zU HC HGC Wd;by_cases he0:¬e0=0
     ·have ZR:Hid (r=(e0,V)):=az (by
       have h1:=HQ.o
       rw[if_pos he0]at h1
       injection h1 with h1
       exact h1.symm)
      have hne:((e0:Int) != 0)=true:=bne_iff_ne.2 he0;clear he0 HQ;go_wp2;go_ret;exact dY.mk ZR.o (Dp.o.old ax) Wp.o
     obtain rfl:e0=0:=ad2 he0;have HQ:Hid _:=az ((if_neg ai).symm.trans HQ.o);go_upto_region 14 with fail;have ZT:Hid (aD (w7.alloc (ach #[vi qb,vi qp] 165)) w7.heap.size 165 #[vi qb,vi qp]):=az (aD.new _ _ _);have C8:=az (Dp.o.old (ak.alloc aj (ach #[vi qb,vi qp] 165)));have HN7:Hid (¬X7.foot f w7.heap.size):=az (λe=>by have:=Dp.o.at_.lt _ e;omega);clear Dp;generalize w7.alloc (ach #[vi qb,vi qp] 165)=w8 at*;generalize w7.heap.size=g7 at*;have c6:w8.cell? ⟨f,6,none⟩=some (.map (some X7.bn)):=C8.o.at_.obj.cell 6
     obtain⟨ob,op,ok2,L,hsome,hnone⟩:=vV C8.o.at_.now aB;have HXN:Hid (X7.N=V.now):=az (congrArg FP.Ft.now Wp.o);have SQ:=az hsome;have QS:=az hnone;clear hsome hnone;go_upto_region 15 with fail;have FB9:Hid (aD (w8.alloc (ach #[vi ob,vi op] 165)) w8.heap.size 165 #[vi ob,vi op]):=az (aD.new _ _ _);have abY:Hid (aD (w8.alloc (ach #[vi ob,vi op] 165)) g7 165 #[vi qb,vi qp]):=az (ZT.o.alloc _);have Ej:=az (C8.o.old (ak.alloc aj (ach #[vi ob,vi op] 165)));have ZM:Hid (¬X7.foot f w8.heap.size):=az (λe=>by have:=C8.o.at_.lt _ e;omega)
     clear C8 c6 L ZT;generalize w8.alloc (ach #[vi ob,vi op] 165)=w9 at*;generalize w8.heap.size=g9 at*;go_upto_if 68 with fail;go_cut [69] from 69 to 86 (λ_ wx=>Hid (aD wx g7 165 #[vi qb,vi qp])/\∃Y,Hid (aQ aA w f X wx Y/\Y.view=older V aB))
     case first =>
      cases ok2
      ·have HO:Hid (older V aB=V):=az (by
        have:=QS.o rfl
        rw[HXN.o]at this
        unfold older
        rw[this])
       go_wp2;go_meet;exact⟨abY,X7,az ⟨Ej.o,by rw[HO.o];exact Wp.o⟩⟩
      have HO:Hid (older V aB={V with g:=(V.g.drop ob).2}):=az (by
       have:=SQ.o rfl
       rw[HXN.o]at this
       unfold older
       rw[this])
      go_upto_region 16 with fail;obtain⟨d0,d1,_,_⟩:=bO FB9.o;have c1:w9.cell? ⟨f,1,none⟩=some (ptr X7.m):=Ej.o.at_.obj.cell 1;have HS:Hid (w9.drew.cell? ⟨f,1,none⟩=some (ptr X7.m)/\w9.drew.cell? ⟨g9,0,none⟩=some (vi ob)):=az ⟨c1,d0⟩;have OB:=az (Ea (Ej.o.at_.old au) BG.o ob);have nS:Hid (∀W,aQ aA w9.drew f X7 W {X7 with G:=X7.G.lay (X7.G.view.drop ob).2}->(W.cell? ⟨f,1,none⟩=some (ptr X7.m)/\W.cell? ⟨g9,0,none⟩=some (vi ob))) :=
       az (λW q=>⟨q.at_.obj.cell 1,(q.far (FB9.o.old au) ZM.o).cell 0⟩)
      go_region_held3 (λw'=>w'.cell? ⟨f,1,none⟩=some (ptr X7.m)/\w'.cell? ⟨g9,0,none⟩=some (vi ob))
       (first|exact HS.o|exact nS.o _ (by assumption))
       (first|(go_at_call 109;refine OB.o.mono ?_;rintro e wd ⟨rfl,hgd⟩))
      have oC:=az ((Ej.o.old au).trans hgd);have FBD:=az (hgd.far (abY.o.old au) HN7.o);clear hgd nS HS OB c1 d0 d1;go_wp2;go_meet;exact⟨FBD,_,az ⟨oC.o,by rw[HO.o,<-Wp.o]⟩⟩
     case rest =>
     obtain⟨FBC,Y,hcut⟩:=hcut;have MM:=az hcut.1;have Ze:=az hcut.2;clear hcut abY FB9 Ej ZM HN7 SQ QS;have HYN:Hid (Y.N=V.now/\Y.D=V.gone):=az ⟨congrArg FP.Ft.now Ze.o,congrArg FP.Ft.gone Ze.o⟩;go_upto_region 17 with fail;obtain⟨y0,y1,_,_⟩:=bO FBC.o;have c6:wc.cell? ⟨f,6,none⟩=some (.map (some Y.bn)):=MM.o.at_.obj.cell 6;obtain⟨we,rG,hm,hgr⟩:=rE (MM.o.at_.old au).now aB qb qp;have AX:=az ((MM.o.old au).trans ((MM.o.at_.old au).Fp hgr hm));have hup:=rG.run;clear rG hm hgr;go_region_law (fail)
     all_goals
      have c7:we.cell? ⟨f,7,none⟩=some (.map (some Y.bg)):=AX.o.at_.obj.cell 7;obtain⟨wf,hdel,SV,IA⟩:=xH AX.o.at_.gone aB;have vQ:=az hdel;have HGF:=az (AX.o.trans (AX.o.at_.zM IA SV));clear hdel SV IA hup c6 y0 y1;go_wp2_with (at_delete;refine eu rfl (.tmp 85) (.tmp 86) rfl rfl rfl (vQ.o.run _) ?_);go_ret;refine dY.mk (by have:=HQ.o;cases this;rfl) HGF.o ?_;have:=Ze.o;rw[<-HYN.o.1,<-HYN.o.2,<-this]
   have HQ:Hid _:=az ((if_pos rfl).symm.trans HQ.o);have HG:=az (aQ.aX H.o pI.o);go_wp2;go_ret;exact dY.mk (by have:=HQ.o;cases this;rfl) HG.o rfl
  have HQ:Hid _:=az ((if_pos hS).symm.trans HQ.o);have hS':((b.length:Int) != (X.M.S:Int))=true:=by simp;omega
  have HG:=az (aQ.aX H.o HB3.o);clear hS;go_wp2;go_ret;exact dY.mk (by have:=HQ.o;cases this;rfl) HG.o rfl
 have HQ:Hid _:=az ((if_pos h0).symm.trans HQ.o);have HG:=az (aQ.aX H.o HB1.o);go_wp2;go_ret;exact dY.mk (by have:=HQ.o;cases this;rfl) HG.o rfl
end ft
end Go.Proofs.YtllmbcigmimgoaaGreat
