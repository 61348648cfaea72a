/-
  Lemmas for a law's proof, put together from several texts. No conditions of their own.
-/
import Derived.Test.YtllmbcigmimgoaaGreatZB12
import Derived.Shelf.SlSortCmp.NoneTotal
import Derived.Shelf.SlSortCmp.SmallK
import Derived.Ground.SlsfProg
import Derived.Test.YtllmbcigmimgoaaGreatZB05
import Derived.BigQuiet
import Derived.Deep.CutRange
import Derived.Deep.CutBlock
set_option maxRecDepth 100000
set_option maxHeartbeats 20000000
set_option linter.all false
namespace Go.Proofs
open _root_.Go.Proofs.Tryz
open Shelf
def Tryz.sortHeld_ren:Go.Shelf.Ren:=⟨fun|6=>193|15=>127|14=>215|28=>162|29=>163|20=>237|21=>238|22=>239|23=>240|24=>241|25=>242|26=>243|27=>244|46=>247|47=>178|48=>179|49=>248|50=>249|57=>250|n=>n,fun|22=>225|24=>251|25=>253|3=>3|39=>197|0=>0|53=>118|55=>150|4=>4|46=>215|45=>214|50=>157|5=>5|9=>9|66=>236|70=>240|76=>266|77=>267|n=>n,fun|n=>n⟩
theorem Tryz.sortHeld:Go.Proofs.SlLaysF0.n6 Tryz.prog Tryz.sortHeld_ren:={mixed:=by kernel_rfl,f6:=⟨f193.name,by decide,hS func193⟩,f14:=⟨f215.name,by decide,hS func215⟩,f15:=hS func127,f20:=⟨f237.name,by decide,hS func237⟩,f21:=⟨f238.name,by decide,hS func238⟩,f22:=⟨f239.name,by decide,hS func239⟩,f23:=⟨f240.name,by decide,hS func240⟩,f24:=⟨f241.name,by decide,hS func241⟩,f25:=⟨f242.name,by decide,hS func242⟩,f26:=⟨f243.name,by decide,hS func243⟩,f27:=⟨f244.name,by decide,hS func244⟩,f28:=hS func162,f29:=hS func163,f46:=⟨f247.name,by decide,hS func247⟩,f47:=hS func178,f48:=hS func179,f49:=⟨f248.name,by decide,hS func248⟩,f50:=⟨f249.name,by decide,hS func249⟩,f57:=⟨f250.name,by decide,hS func250⟩,t0:=underlying0,a0:=isAgg0,z0:=sizeOf0,v0:=zeroValue0,t3:=underlying3,a3:=isAgg3,z3:=sizeOf3,v3:=zeroValue3,t4:=underlying4,a4:=isAgg4,z4:=sizeOf4,v4:=zeroValue4,t5:=underlying5,a5:=isAgg5,z5:=sizeOf5,v5:=zeroValue5,t9:=underlying9,a9:=isAgg9,z9:=sizeOf9,v9:=zeroValue9,t22:=underlying225,a22:=isAgg225,z22:=sizeOf225,v22:=zeroValue225,t25:=underlying253,a25:=isAgg253,z25:=sizeOf253,v25:=zeroValue253,t39:=underlying197,a39:=isAgg197,z39:=sizeOf197,v39:=zeroValue197,t45:=underlying214,a45:=isAgg214,z45:=sizeOf214,v45:=zeroValue214,t46:=underlying215,a46:=isAgg215,z46:=sizeOf215,v46:=zeroValue215,t50:=underlying157,a50:=isAgg157,z50:=sizeOf157,v50:=zeroValue157,t53:=underlying118,a53:=isAgg118,z53:=sizeOf118,v53:=zeroValue118,t55:=underlying150,a55:=isAgg150,z55:=sizeOf150,v55:=zeroValue150,t66:=underlying236,a66:=isAgg236,z66:=sizeOf236,v66:=zeroValue236,t70:=underlying240,a70:=isAgg240,z70:=sizeOf240,v70:=zeroValue240,t76:=underlying266,a76:=isAgg266,z76:=sizeOf266,v76:=zeroValue266,t77:=underlying267,a77:=isAgg267,z77:=sizeOf267,v77:=zeroValue267}
end Go.Proofs
namespace Go.Proofs.YtllmbcigmimgoaaGreat
open _root_.Go.Proofs.Tryz
open _root_.And renaming intro->ae7
open _root_.Array renaming getElem?_setIfInBounds->af3
open _root_.Classical renaming byContradiction->ad2
open _root_.Go renaming World->acL,Calls->ac4
open _root_.Go.Calls renaming quiet_of_same->af1
open _root_.Go.Ending renaming returned->ab4
open _root_.Go.IntKind renaming i64->adk
open _root_.Go.IntWalk renaming i64_in->adl
open _root_.Go.Obj renaming cells->ach
open _root_.Go.RowKit renaming Below->acN
open _root_.List renaming getD_eq_getElem?_getD->aah
open _root_.Nat renaming le_trans->abX
namespace ft
open RowKit Shelf Lib Go.Sort mgr
abbrev HB:={h:FP.Hd // 0<=h.at_.aB/\h.at_.aB<=100000}
instance:Inhabited HB:=⟨⟨default,by decide⟩⟩
def ZO (x y:HB):Int:=x.1.at_.aB-y.1.at_.aB
def ai0:SWO (ltOf ZO):=⟨λx=>by simp[ltOf,ZO],λx y z h1 h2=>by
  unfold ltOf ZO at*
  have:=of_decide_eq_true h1
  have:=of_decide_eq_true h2
  exact decide_eq_true aa,λx y z h1 h2=>by
  unfold ltOf ZO at*
  have:=of_decide_eq_false h1
  have:=of_decide_eq_false h2
  exact decide_eq_false aa⟩
def Cn (bs bn:Nat)(x y:HB)(W:acL):ac4 prog 194 #[.agg (uY bs bn x.1).toArray,.agg (uY bs bn y.1).toArray] W λe w'=>e=ab4 (.int .i64 (ZO x y))/\∃q os',w'=grow (W.drewN q) os':=by
 have hw:adk.wrap (x.1.at_.aB-y.1.at_.aB)=x.1.at_.aB-y.1.at_.aB:=adl _ (by have:=x.2;have:=y.2;omega);unfold ZO uY;generalize x.1.at_.aB=p at*;generalize y.1.at_.aB=p' at*;generalize Value.map (some (if x.1.sl then bs else bn))=m at*;generalize Value.map (some (if y.1.sl then bs else bn))=m' at*;change ac4 prog 194 #[.agg #[m,.int .u32 x.1.aB,vi x.1.at_.block,vi p],.agg #[m',.int .u32 y.1.aB,vi y.1.at_.block,vi p']] W _;go_in;go_wp2;go_ret;exact⟨rfl,0,_,by rw[alloc_eq_grow,alloc_eq_grow,grow_grow];rfl⟩
def ZP (bs bn:Nat)(b0:Nat)(w:acL)(a:Option Addr)(l:List FP.Hd):Prop :=
 l=[]\/∃g,a=some ⟨g,0,none⟩/\b0<=g/\∀i,i<l.length->∀c u,(uY bs bn (l.getD i default))[c]?=some u->w.cell? ⟨g,i*4+c,none⟩=some u
def abM (X:dm)(k:Int)(w:acL)(e:Ending)(w':acL):Prop :=
 ∃a c,e=ab4 (.slice a (X.view.needed k).length c)/\ZP X.bs X.bn w.heap.size w' a (X.view.needed k)/\acN w.heap.size w w'
section
variable{aA:Nat}{w w':acL}{f:Nat}{X:dm}{bs bn:Nat}{v:Value}{l:List FP.Hd}
def LH {W:acL}{g n:Nat}{os:Array Obj}{d:Array HB}:W.grownBy (sortWorldK (λx:HB=>uY bs bn x.1) 4 W g 0 n d os) (some g):=by
 unfold sortWorldK putRowK;refine⟨rfl,rfl,rfl,ai,λk hk hne=>?_⟩;rw[Go.Sort.heap_grow_old _ _ (by simpa using hk)];have:g≠k:=λe=>hne (by rw[e])
 simp[putRow,mapBlock,Sort.ahead,Array.getElem?_modify,this]
def flat_hd (bs bn:Nat)(l:List FP.Hd){i j:Nat}(hi:i<l.length)(hj:j<4):(l.flatMap (uY bs bn))[i*4+j]?=(uY bs bn (l.getD i default))[j]?:=by
 induction l generalizing i with
 |nil=>simp at hi
 |cons x l ih =>
  rw[List.flatMap_cons];cases i with
  |zero=>rw[List.getElem?_append_left (by rw[wN];omega)];simp
  |succ i =>
   rw[List.getElem?_append_right (by rw[wN];omega),wN,show (i+1)*4+j-4=i*4+j by omega,ih (by simpa using hi)];rfl
def flatK_hd (bs bn:Nat)(d:Array HB){t:Nat}(ht:t<d.size*4):(flatK (λx:HB=>uY bs bn x.1) 4 d)[t]! =(uY bs bn (d[t/4]!).1)[t%4]!:=get_flatK _ _ _ _ ht
def uD {k:Int}{l':List FP.Hd}(hp:l.Perm (X.view.raw k))(hp':l'.Perm l)(hs:l'.Pairwise (λx y=>x.at_.aB<=y.at_.aB))(hd:(X.view.raw k).Pairwise (λx y=>x.at_.aB≠y.at_.aB)):l'=X.view.needed k:=by
 refine FP.tJ (hp'.trans (hp.trans (FP.gZ _).symm)) ?_ (FP.EB hd);have h2:l'.Pairwise (λx y=>x.at_.aB≠y.at_.aB):=(hp'.trans hp).symm.pairwise hd (λ{x y} e=>Ne.symm e);exact List.Pairwise.imp₂ (λx y a b=>aa) hs h2
def LJ (h:bP aA w f X)(k:Nat)(hS:X.S.length+X.N.length<=100000)(hd:(X.view.raw k).Pairwise (λx y=>x.at_.aB≠y.at_.aB))(hb:∀x∈X.view.raw k,0<=x.at_.aB/\x.at_.aB<=100000) :
  ac4 prog 167 #[ptr f,vi k] w (abM X k w):=by
 refine LG h k hS _ λa n c W hW=>?_
 obtain⟨l,hbel,hown,hperm⟩:=hW;rcases hown.2 with⟨hv,h0⟩|⟨g,cap,cur,hv,hg,hgb,hnc,hcm,hsz,aet⟩;injection hv with ha hn hc;subst ha hn hc;have hl:l=[]:=List.eq_nil_of_length_eq_zero h0;have hnd:X.view.needed k=[]:=(uD hperm (List.Perm.refl _) (by rw[hl];exact List.Pairwise.nil) hd).symm.trans hl;refine(AnyF.slices_SortFunc_none sortHeld none 0 _ W).mono ?_;rintro e w' ⟨rfl,rfl⟩;refine⟨rfl,none,0,by rw[hnd];rfl,.inl hnd,hbel⟩;injection hv with ha hn hc;subst ha hn hc;have hbl:∀x∈l,0<=x.at_.aB/\x.at_.aB<=100000:=λx hx=>hb x (hperm.subset hx)
 obtain⟨d,hdd⟩:∃d:Array HB,d.toList.map (·.1)=l:=⟨(l.pmap (λx hx=>(⟨x,hx⟩:HB)) hbl).toArray,by simp[List.map_pmap]⟩;have hsz2:d.size=l.length:=by rw[<-hdd];simp
 have hget:∀i,i<d.size->(d[i]!).1=l.getD i default:=λi hi=>by
  rw[<-hdd,aah,List.getElem?_map,Array.getElem?_toList,Array.getElem?_eq_getElem hi,getElem!_pos d i hi];rfl
 have hH:HoldsK (λx:HB=>uY X.bs X.bn x.1) 4 W g 0 d:=by
  intro t ht;have ht':t<d.size*4:=by simpa using ht
  have h1:=acL.ownsRow.cellAt hown t aa;have h2:=acL.ownsRow.frozenAt hown t;rw[Nat.zero_add];refine⟨?_,h2⟩;rw[h1,flatK_hd _ _ _ ht',hget _ aa];have e:=flat_hd X.bs X.bn l (i:=t/4) (j:=t%4) aa aa;rw[show t/4*4+t%4=t by omega]at e;rw[e];have:t%4<(uY X.bs X.bn (l.getD (t/4) default)).length:=by rw[wN];omega
  rw[List.getElem?_eq_getElem this,getElem!_pos (uY X.bs X.bn (l.getD (t/4) default)) (t%4) this];rfl
 have hgl:g<W.heap.size:=by have h1:aD W g 251 cur:=hgb;exact h1.lt
 have eg:∀args w,(callFunc 194 args).run prog w=.ok (.enter 194 args) w:=enters_of func194 ah rfl;have hcon:=AnyQ.slices_SortFunc sortHeld 4 isAgg251 sizeOf251 (λx:HB=>uY X.bs X.bn x.1) (λ_=>rfl) (λx v hv=>by simp[uY]at hv;rcases hv with rfl|rfl|rfl|rfl<;>rfl) ZO ai0 194 #[] g 0 c d W eg (λ_ _ _ _ x y=>Cn X.bs X.bn x y _) hH hgl (by
  have h1:=hperm.length_eq
  have h2:(X.view.raw k).length<=X.S.length+X.N.length:=NI X k 2
  omega)
 rw[hsz2]at hcon;refine hcon.mono ?_;rintro e w' ⟨rfl,d',n,os,ai1,ai2,rfl⟩;obtain⟨hds,_,XJ⟩:=ai1;have hH':=holdsK_sortWorldK_c (λx:HB=>uY X.bs X.bn x.1) 4 W g 0 d d' n os hH hgl hds;have hex:∀z:Array HB,z.size=l.length->(z.extract 0 l.length).toList=z.toList:=λz hz=>by
  rw[<-hz];simp
 rw[hex d' aa,hex d hsz2]at XJ;have Vf:(d'.toList.map (·.1)).Perm l:=by
  have:=XJ.map (λx:HB=>x.1);rwa[hdd]at this
 have Yk:(d'.toList.map (·.1)).Pairwise (λx y=>x.at_.aB<=y.at_.aB):=by
  refine List.pairwise_map.2 (List.pairwise_iff_getElem.2 λi j hi hj hij=>?_);have:=ai2 i j aa hij (by simpa[hds,hsz2] using hj);unfold ltOf ZO at this;have h3:=of_decide_eq_false this;rw[getElem!_pos d' i (by simpa using hi),getElem!_pos d' j (by simpa using hj)]at h3;simp only[Array.getElem_toList];omega
 have hnd:=uD hperm Vf Yk hd;have hlen:(X.view.needed k).length=l.length:=by rw[<-hnd];exact Vf.length_eq
 refine⟨rfl,some ⟨g,0,none⟩,c,by rw[hlen],Or.inr ⟨g,rfl,hg,λi hi cc u hu=>?_⟩,?_⟩;have hi':i<d'.size:=aa;have hc4:cc<4:=by
  have:=(List.getElem?_eq_some_iff.1 hu).1;rw[wN]at this;exact this
 have h5:=(HoldsK.cell hH' (i:=i) (c:=cc) hi' hc4).1;rw[Nat.zero_add]at h5;rw[h5];have e5:(d'[i]!).1=(X.view.needed k).getD i default:=by
  rw[<-hnd,aah,List.getElem?_map,Array.getElem?_toList,Array.getElem?_eq_getElem hi',getElem!_pos d' i hi'];rfl
 rw[e5];have h6:=List.getElem?_eq_some_iff.1 hu;obtain⟨h7,h8⟩:=h6;rw[getElem!_pos (uY X.bs X.bn ((X.view.needed k).getD i default)) cc h7,h8];exact hbel.grown LH hbel.size (λk e=>by injection e with e;omega)
end
structure Co (k:Nat)(L:List FP.Hd)(V:FP.Ft):Prop where
 sound:FP.Sound V
 lt:k<V.c.B
 need:V.needed k=L
 st:V.raw k≠[]->(V.g.blk k).s=2
 aK:((V.raw k).length:Int)<=bT V.g.jD V.c.P
variable{h:FP.Hd}{L:List FP.Hd}{V:FP.Ft}
def Co.step {k:Nat}(I:Co k (h::L) V):∃V1,V.mv1 k h=some V1/\Co k L V1/\h∈V.raw k:=by
 have hp:(V.needed k).Perm (V.raw k):=FP.gZ _;rw[I.need]at hp;have hh:h∈V.raw k:=hp.subset ai;have hne:V.raw k≠[]:=List.ne_nil_of_mem hh;have hpos:0<(V.raw k).length:=List.length_pos_of_mem hh;obtain⟨f1,h1,E⟩:=FP.UZ I.sound I.lt hh (I.st hne) (by have:=I.aK;omega);have hlen:=E.raw.length_eq;rw[List.length_cons]at hlen;have hL:f1.needed k=L:=by
  refine FP.tJ ?_ (E.sound.tK k) ?_;have h2:(h::f1.needed k).Perm (h::L):=((FP.gZ (f1.raw k)).cons h).trans (E.raw.symm.trans hp.symm);exact List.Perm.cons_inv h2;have:=I.sound.tK k;rw[I.need]at this;exact(List.pairwise_cons.1 this).2
 exact⟨f1,h1,⟨E.sound,by rw[E.keep.bI.1];exact I.lt,hL,E.st,by rw[E.aK];have:=I.aK;omega⟩,hh⟩
def Ap (f:Nat)(Y:dm)(w:acL)(g:Nat):Prop:=¬Y.foot f g/\g<w.heap.size
section
variable{aA:Nat}{w wa wb wr:acL}{f g k:Nat}{X Y Ya Yb:dm}{L:List FP.Hd}{V DK:FP.Ft}
def Ap.goes (h:Ap f Ya wa g)(q:aQ aA wa f Ya wb Yb):Ap f Yb wb g :=
 ⟨λe=>by
  rcases q.foot g e with h1|h1
  exact h.1 h1
  have:=h.2;omega,Nat.lt_of_lt_of_le h.2 q.size⟩
def Ap.blk (h:Ap f Ya wa g)(q:aQ aA wa f Ya wb Yb){t:TypeId}{cs:Array Value}(hb:aD wa g t cs):aD wb g t cs:=hb.aJ q.aJ h.1
def Ap.cell (h:Ap f Ya wa g)(q:aQ aA wa f Ya wb Yb){o:Nat}{v:Value}(hb:wa.cell? ⟨g,o,none⟩=some v):wb.cell? ⟨g,o,none⟩=some v:=q.aJ.cell hb h.1
def Ap.old (h:Ap f Ya wa g)(q:acN wa.heap.size wa wb):Ap f Ya wb g:=⟨h.1,Nat.lt_of_lt_of_le h.2 q.size⟩
def Ap.new (h:bP aA wa f Ya)(o:Obj):Ap f Ya (wa.alloc o) wa.heap.size:=⟨λe=>by have:=h.lt _ e;omega,by simp⟩
def jR (bs bn g:Nat)(L:List FP.Hd)(w:acL):Prop:=∀i,i<L.length->∀c u,(uY bs bn (L.getD i default))[c]?=some u->w.cell? ⟨g,i*4+c,none⟩=some u
def jR.goes (h:jR X.bs X.bn g L wa)(ha:Ap f Ya wa g)(q:aQ aA wa f Ya wb Yb):jR X.bs X.bn g L wb:=λi hi c u hu=>ha.cell q (h i hi c u hu)
structure abN (aA:Nat)(w:acL)(f:Nat)(X:dm)(k:Nat)(g:Nat)(L:List FP.Hd)(DK:FP.Ft)(j:Nat)(wr:acL)(Y:dm):Prop where
 goes:aQ aA w f X wr Y
 maps:Y.bs=X.bs/\Y.bn=X.bn/\Y.bg=X.bg
 inv:Co k (L.drop j) Y.view
 run:FP.mvTo k (L.drop j) Y.view=some DK
 row:jR X.bs X.bn g L wr
 ap:L≠[]->Ap f Y wr g
def P6 {V1:FP.Ft}{k:Int}(h1:V.mv1 k h=some V1):FP.mvTo k (h::L) V=FP.mvTo k L V1:=by
 show (match V.mv1 k h with|none=>none|some f1=>FP.mvTo k L f1)=_;rw[h1]
def P7 {j:Nat}(hj:j<L.length):L.drop j=L.getD j default::L.drop (j+1):=by
 rw[List.drop_eq_getElem_cons hj,aah,List.getElem?_eq_getElem hj];rfl
def Vg {V1:FP.Ft}{k:Int}(e:V.mv1 k h=some V1):(NP.bQ V.c k h.at_.aB).1.2=0/\∃p f1,({V with c:=(NP.bQ V.c k h.at_.aB).2}:FP.Ft).copied (NP.bQ V.c k h.at_.aB).1.1=some (p,f1) /\
  V1={(f1.dE h.sl h.aB p).dC h.aB with g:=(((f1.dE h.sl h.aB p).dC h.aB).g.drop k).2}:=by
 unfold FP.Ft.mv1 at e;dsimp only at e;split at e;cases e;rename_i h0;refine⟨ad2 h0,?_⟩;split at e;cases e;rename_i p f1 hc;injection e with e;exact⟨p,f1,hc,e.symm⟩
def Jv {F F1:FP.Ft}{l:List Nat}{p:FP.cB}(h1:gW F.c)(h2:F.g.ok F.c)(hs:∀y∈l,y<256)(e:F.copied l=some (p,F1)):gW F1.c/\F1.g.ok F1.c/\F1.c.B=F.c.B/\F1.c.P=F.c.P/\F1.now=F.now/\F1.bD=F.bD/\F1.gone=F.gone:=by
 obtain⟨_,_,_,rfl⟩:=zf e;have ha:=kC (g:=F.g) (c:=F.c) hs;have hb:=nP hs h1 h2;have hr:fI (λ_=>False) (Mg.program l F.c F.g).2.1 (NP.bQ (Mg.program l F.c F.g).2.1 p.block p.aB).2:=.one (.read p.block p.aB) trivial (λk e=>by cases e);have hd:=(ha.trans hr).bI;exact⟨(ha.trans hr).good h1,hb.acts hr,hd.1,hd.2.1,rfl,rfl,rfl⟩
def P8 (h:bP aA w f Y)(sl:Bool)(n:Int)(p:FP.cB){mb:Nat}(hmb:mb=(if sl then Y.bs else Y.bn)):∃w' Y',ER 149 (.map (some mb)) (.int .u32 n) (.agg #[vi p.block,vi p.aB]) w w'/\aQ aA w f Y w' Y'/\Y'.view=Y.view.dE sl n p/\Y'.bs=Y.bs/\Y'.bn=Y.bn/\Y'.bg=Y.bg/\Y'.G=Y.G/\Y'.M=Y.M:=by
 cases sl;obtain⟨w',h1,h2,h3⟩:=rE h.now n p.block p.aB;simp only[Bool.false_eq_true,if_false]at hmb;subst hmb;exact⟨w',_,h1,h.Fp h3 h2,rfl,rfl,rfl,rfl,rfl,rfl⟩;obtain⟨w',h1,h2,h3⟩:=rE h.bD n p.block p.aB;simp only[if_true]at hmb;subst hmb;exact⟨w',_,h1,h.MK h3 h2,rfl,rfl,rfl,rfl,rfl,rfl⟩
def Vh (h:bP aA w f X)(hS:FP.Sound X.view)(hI:Co k (X.view.needed k) X.view)(DK:FP.Ft)(hq:X.view.move k=some DK)(hbase:aA<=w.heap.size) :
  ac4 prog 196 #[ptr f,vi k] w λe w'=>∃X',e=.returned (vi 0)/\aQ aA w f X w' X'/\X'.view=DK/\X'.bs=X.bs/\X'.bn=X.bn/\X'.bg=X.bg:=by
 obtain⟨L,hL⟩:∃L,L=X.view.needed k:=⟨_,rfl⟩;have GQ:Hid (ac4 prog 167 #[ptr f,vi k] w λe w'=>∃a c,e=.returned (.slice a L.length c)/\ZP X.bs X.bn w.heap.size w' a L/\acN w.heap.size w w'):=az (by
  rw[hL]
  exact LJ h k (by
   have h1:=hS.fit.slow.len
   have h2:=hS.fit.oG.len
   have h1':X.S.length<=8192:=h1
   have h2':X.N.length<=8192:=h2
   omega) hS.EE (λx hx=>by
   have h1:=hS.place _ _ _ (hS.mem.1 hx).2
   have h2:=hS.cg.good.ok.next _ (hS.cg.good.ok.mem h1.lt)
   have h3:=hS.cg.bI
   have h4:=h1.p0
   have h5:=h1.p1
   omega))
 have H:=az h;have HI:Hid (Co k L X.view):=az (by rw[hL];exact hI);have HQ:Hid (FP.mvTo k L X.view=some DK):=az (by rw[hL];exact hq);have XP:Hid (L.length<=32):=az (by
  have h1:=(FP.gZ (X.view.raw k)).length_eq
  have h2:=hS.U2 hI.lt
  have h3:=hS.cg.bI
  have h4:(X.view.needed k).length=(X.view.raw k).length:=h1
  rw[hL]
  omega)
 clear h hS hI hq hL;go_in;go_wp2_with fail;refine GQ.o.mono ?_;rintro e w1 ⟨a,c,rfl,hrow,hbel⟩;obtain⟨g,hg⟩:∃g,(L=[]\/a=some ⟨g,0,none⟩)/\Hid (jR X.bs X.bn g L w1/\(L≠[]->Ap f X w1 g)):=by
  rcases hrow with e|⟨g,e,h1,h2⟩;exact⟨0,.inl e,az ⟨λi hi=>by rw[e]at hi;simp at hi,λh=>absurd e h⟩⟩;refine⟨g,.inr e,az ⟨h2,λhne=>⟨λe2=>by have:=H.o.lt _ e2;omega,?_⟩⟩⟩;have h3:=h2 0 (List.length_pos_iff.2 hne) 0 _ rfl;exact lU h3
 have HAG:=az hg.1;have HST:Hid (abN aA w f X k g L DK 0 w1 X):=az ⟨aQ.aX H.o hbel,⟨rfl,rfl,rfl⟩,HI.o,HQ.o,hg.2.o.1,hg.2.o.2⟩;clear hrow hbel hg GQ HI HQ;go_wp2_with fail;go_loopw [16] (λi wr=>∃(j:Nat),j<=L.length/\i=vi j/\∃Y,Hid (abN aA w f X k g L DK j wr Y)) (λi _=>L.length-(intOf i).toNat)
 case atStart=>exact⟨0,Nat.zero_le _,rfl,X,HST⟩
 case round =>
  clear HST;obtain⟨j,hj,rfl,Y,hst⟩:=hrel;by_cases hlt:j<L.length
  ·obtain rfl:a=some ⟨g,0,none⟩:=by
    rcases HAG.o with e|e;rw[e]at hlt;simp at hlt;exact e
   have hinv:=hst.o.inv;have hrun:=hst.o.run;rw[P7 hlt]at hinv hrun;obtain⟨V1,hm1,hi1,hmem⟩:=hinv.step;rw[P6 hm1]at hrun;obtain⟨hr0,p,F1,hcp,hV1⟩:=Vg hm1;have hin:=hinv.sound.place _ _ _ (hinv.sound.mem.1 hmem).2;have hblk:=(hinv.sound.mem.1 hmem).1;have hgood:=hinv.sound.cg;have hc:=hst.o.row j hlt;generalize L.getD j default=hd at*;obtain⟨sl,n,pb,pg⟩:=hd;dsimp only at*;subst hblk;have d0:wr.cell? ⟨g,j*4,none⟩=some (.map (some (if sl then X.bs else X.bn))):=hc 0 _ rfl;have d1:wr.cell? ⟨g,j*4+1,none⟩=some (.int .u32 n):=hc 1 _ rfl;have d2:wr.cell? ⟨g,j*4+2,none⟩=some (vi k):=hc 2 _ rfl
   have d3:wr.cell? ⟨g,j*4+3,none⟩=some (vi pg):=hc 3 _ rfl;obtain⟨mb,hmb⟩:∃mb,mb=(if sl then X.bs else X.bn):=⟨_,rfl⟩;rw[<-hmb]at d0;have HMB:=az hmb;have eX:=az hin;have P9:=az hgood;have lF:=az hrun;have HI1:=az hi1;have JS:=az hcp;have ZF:=az hV1;have zi:=az hr0;have ig:=az hlt;have ai3:=az (hinv.sound.mem.1 hmem).2;dsimp only at ai3;have QZ:Hid (0<=n/\n<8192):=az (by
    have h1:=(hinv.sound.mem.1 hmem).2
    unfold FP.Ft.gM at h1
    dsimp only at h1
    cases sl
    exact FP.wH hinv.sound.fit.oG h1
    exact FP.wH hinv.sound.fit.slow h1)
   have HAP:=az (hst.o.ap (by intro e;rw[e]at hlt;simp at hlt));have n0:(0:Int)<=(j:Int):=aa;have n1:(j:Int)<(L.length:Int):=aa;clear hc hmb hin hgood hrun hi1 hcp hV1 hr0 hmem hinv hm1 hj hlt HAG;go_upto_region 4 with fail;have qF:Hid (aD (wr.alloc (.cells #[.map (some mb),.int .u32 n,vi k,vi pg] 251)) wr.heap.size 251 #[.map (some mb),.int .u32 n,vi k,vi pg]):=az (aD.new _ _ _);have lK:acN wr.heap.size wr (wr.alloc (.cells #[.map (some mb),.int .u32 n,vi k,vi pg] 251)):=ax;have iR:=az (hst.o.goes.old lK);have OQ:=az (ae7 (Ap.new hst.o.goes.at_ (.cells #[.map (some mb),.int .u32 n,vi k,vi pg] 251)) (HAP.o.old lK))
   have OU:Hid (jR X.bs X.bn g L (wr.alloc (.cells #[.map (some mb),.int .u32 n,vi k,vi pg] 251))):=az (λi hi c u hu=>cell_below (hst.o.row i hi c u hu) lK);have ZQ:=az hst.o.maps;change Code.wp _ _ _ _ (wr.alloc (.cells #[.map (some mb),.int .u32 n,vi k,vi pg] 251));clear lK HAP hst d0 d1 d2 d3;generalize wr.alloc (.cells #[.map (some mb),.int .u32 n,vi k,vi pg] 251)=w3 at*;generalize wr.heap.size=x at*;have c0:w3.cell? ⟨f,0,none⟩=some (ptr Y.G.k):=iR.o.at_.obj.cell 0;have x3:w3.cell? ⟨x,3,none⟩=some (vi pg):=qF.o.cell 3;have HS:Hid (w3.drew.cell? ⟨f,0,none⟩=some (ptr Y.G.k)/\w3.drew.cell? ⟨x,3,none⟩=some (vi pg)):=az ⟨c0,x3⟩
   have bK:=az (_root_.Go.Proofs.YtllmbcigmimgoaaGreat.Read_any (iR.o.at_.held.aW.old au) P9.o.good.ok k pg);have hfn:¬Y.M.foot Y.G.k f:=λe=>iR.o.at_.nQ.2.2.2.2 (.inr e)
   have hxn:¬Y.M.foot Y.G.k x:=λe=>OQ.o.1.1 (.inr (.inr (.inr (.inr (.inr (.inr e))))))
   have nS:Hid (∀W M',Goes aA w3.drew Y.G.k Y.M W M'->(W.cell? ⟨f,0,none⟩=some (ptr Y.G.k)/\W.cell? ⟨x,3,none⟩=some (vi pg))) :=
    az (λW M' q=>⟨q.aJ.cell HS.o.1 hfn,q.aJ.cell HS.o.2 hxn⟩)
   go_region_held3 (λw'=>w'.cell? ⟨f,0,none⟩=some (ptr Y.G.k)/\w'.cell? ⟨x,3,none⟩=some (vi pg))
    (first|exact HS.o|exact nS.o _ _ (by assumption))
    (first|(go_at_call 101;refine bK.o.mono ?_;rintro e w4 ⟨v4,M4,rfl,zm,hg4,hv4⟩))
   rw[zi.o];have Qa:=az ((aQ.aX iR.o.at_ au).trans ((iR.o.at_.old au).jG hg4));have nJ:=az (OQ.o.1.blk Qa.o qF.o);have GJ:=az (ae7 (OQ.o.1.goes Qa.o) (OQ.o.2.goes Qa.o));have aeQ:=az (OU.o.goes OQ.o.2 Qa.o);have qK:=az (iR.o.trans Qa.o);have lX:=az (yM P9.o.good.ok k pg);obtain⟨a4,k4,rfl,hs4,hl4,hc4,_⟩:=zm.Db (aA:=aA) lX.o;have HSR:=az hs4;have aeR:Hid (0<(NP.bQ Y.M.view k pg).1.1.length/\(NP.bQ Y.M.view k pg).1.1.length<=900000):=az (by
    have h1:=FP.zS P9.o eX.o
    have h2:=FP.wu P9.o.good.ok eX.o
    have h3:=sM P9.o.good.ok
    have h4:Y.M.view.S<=512:=by
     have h5:NP.bH Y.M.view.B Y.M.view.P Y.M.view.S=true:=P9.o.good.ok.right
     unfold NP.bH at h5
     simp only[Bool.and_eq_true,Bool.or_eq_true,beq_iff_eq,decide_eq_true_eq]at h5
     omega
    rw[h1,h2.1]
    unfold NP.bX.full
    omega)
   have QW:Hid (({Y with M:=M4}:dm).view.copied (NP.bQ Y.M.view k pg).1.1=some (p,F1)):=az (by
    have e:({Y with M:=M4}:dm).view={Y.view with c:=(NP.bQ Y.M.view k pg).2}:=by rw[<-hv4]
    rw[e]
    exact JS.o)
   have O0:Hid (gW M4.view/\Y.G.view.ok M4.view):=az (by
    rw[hv4]
    have hr:fI (λ_=>False) Y.M.view (NP.bQ Y.M.view k pg).2:=.one (.read k pg) trivial (λk e=>by cases e)
    exact⟨hr.good P9.o.good,P9.o.lL.acts hr⟩)
   have abO:=az (Jv (F:=({Y with M:=M4}:dm).view) O0.o.1 O0.o.2 lX.o QW.o);have HCY:=az (LF qK.o.at_ O0.o.1 O0.o.2 a4 _ k4 HSR.o aeR.o p F1 QW.o (abX hbase qK.o.size));clear hs4 zm hg4 hv4 nS bK HS c0 x3 hfn hxn Qa iR OQ qF OU zi aeR lX HSR QW JS P9 eX;generalize NP.bQ Y.M.view k pg=rr at*;obtain⟨⟨bl,be⟩,U⟩:=rr;dsimp only at*;generalize bl.length=nl at*;go_wp2_with fail;refine HCY.o.mono ?_;rintro e w5 ⟨Y5,rfl,hg5,hv5,hm5⟩;have Bl:=az (qK.o.trans hg5);have xR:=az (GJ.o.1.blk hg5 nJ.o);have zo:=az (ae7 (GJ.o.1.goes hg5) (GJ.o.2.goes hg5))
   have Uh:=az (aeQ.o.goes GJ.o.2 hg5);have HV5:=az hv5;have Wo:Hid (Y5.bs=X.bs/\Y5.bn=X.bn/\Y5.bg=X.bg):=az ⟨hm5.1.trans ZQ.o.1,hm5.2.1.trans ZQ.o.2.1,hm5.2.2.trans ZQ.o.2.2⟩;clear hg5 hv5 hm5 HCY qK nJ GJ aeQ ZQ O0;obtain⟨qb,qp⟩:=p;go_upto_region 8 with fail;have HY6:Hid (aD (w5.alloc (.cells #[vi qb,vi qp] 165)) w5.heap.size 165 #[vi qb,vi qp]):=az (aD.new _ _ _);have lK:acN w5.heap.size w5 (w5.alloc (.cells #[vi qb,vi qp] 165)):=ax;have O5:=az (Bl.o.old lK);have BU:=az (xR.o.old lK);have HA6:=az (ae7 (zo.o.1.old lK) (ae7 (zo.o.2.old lK) (Ap.new Bl.o.at_ (.cells #[vi qb,vi qp] 165))))
   have aeT:Hid (jR X.bs X.bn g L (w5.alloc (.cells #[vi qb,vi qp] 165))):=az (λi hi c u hu=>cell_below (Uh.o i hi c u hu) lK);change Code.wp _ _ _ _ (w5.alloc (.cells #[vi qb,vi qp] 165));clear lK Bl xR zo Uh;generalize w5.alloc (.cells #[vi qb,vi qp] 165)=w6 at*;generalize w5.heap.size=y at*;have x0:w6.cell? ⟨x,0,none⟩=some (.map (some mb)):=BU.o.cell 0;have x1:w6.cell? ⟨x,1,none⟩=some (.int .u32 n):=BU.o.cell 1;have y0:w6.cell? ⟨y,0,none⟩=some (vi qb):=HY6.o.cell 0;have y1:w6.cell? ⟨y,1,none⟩=some (vi qp):=HY6.o.cell 1;obtain⟨w7,Y7,hup,yO,hv7,hm7⟩:=P8 O5.o.at_ sl n ⟨qb,qp⟩ (mb:=mb) (by rw[HMB.o,Wo.o.1,Wo.o.2.1])
   have HUP:=az hup;have Dp:=az (O5.o.trans yO);have BG:=az (HA6.o.1.blk yO BU.o);have HA7:=az (ae7 (HA6.o.1.goes yO) (HA6.o.2.1.goes yO));have aeU:=az (aeT.o.goes HA6.o.2.1 yO);have Wp:Hid (Y7.view=F1.dE sl n ⟨qb,qp⟩):=az (by rw[hv7,HV5.o]);have HM7:Hid (Y7.bs=X.bs/\Y7.bn=X.bn/\Y7.bg=X.bg):=az ⟨hm7.1.trans Wo.o.1,hm7.2.1.trans Wo.o.2.1,hm7.2.2.1.trans Wo.o.2.2⟩;clear hup yO hv7 hm7;go_upto_region 11 with (at_mapUpdate;refine gP rfl (.tmp 45) (.tmp 47) (.tmp 48) rfl rfl rfl rfl HUP.o.run ?_);go_frame;clear HUP O5 BU HA6 aeT HY6 x0 x1 y0 y1 HV5 Wo
   have c7:w7.cell? ⟨f,7,none⟩=some (.map (some Y7.bg)):=Dp.o.at_.obj.cell 7;have x1:w7.cell? ⟨x,1,none⟩=some (.int .u32 n):=BG.o.cell 1;obtain⟨pb,pp,ok,hlk,hok⟩:∃(pb pp:Int) (ok:Bool),(∀W,bP aA W f Y7->(Instr.lookup 149 (.map (some Y7.bg)) (.int .u32 n) true).run prog W=.ok (.tuple #[.agg #[vi pb,vi pp],.bool ok]) W)/\MP.has Y7.D n=ok:=by
    cases hg:MP.get Y7.D n with
    |some q=>exact⟨q.block,q.aB,true,λW h=>mg h.gone hg,by unfold MP.has;rw[hg];rfl⟩
    |none=>exact⟨0,0,false,λW h=>mh h.gone hg,by unfold MP.has;rw[hg];rfl⟩
   have vM:=az hok;have l1:=hlk w7.drew (Dp.o.at_.old au);have Ii:Hid (acN w7.heap.size w7 (w7.alloc (.cells #[vi 0,vi 0] 165)).drew):=az ax.drew;have l2:=hlk _ (Dp.o.at_.old Ii.o);have c7a:(w7.alloc (.cells #[vi 0,vi 0] 165)).drew.cell? ⟨f,7,none⟩=some (.map (some Y7.bg)):=cell_below c7 Ii.o;have x1a:(w7.alloc (.cells #[vi 0,vi 0] 165)).drew.cell? ⟨x,1,none⟩=some (.int .u32 n):=cell_below x1 Ii.o;clear hok hlk;go_cut [10,11] from 49 to 58 (λ_ v wx=>v=.bool ok/\Hid (aQ aA w f X wx Y7/\aD wx x 251 #[.map (some mb),.int .u32 n,vi k,vi pg]/\Ap f Y7 wx x/\Ap f Y7 wx g/\jR X.bs X.bn g L wx))
   case first =>
    have fV:Hid (w7.drew.cell? ⟨f,7,none⟩=some (.map (some Y7.bg))/\w7.drew.cell? ⟨x,1,none⟩=some (.int .u32 n)):=az ⟨c7,x1⟩;have HS2:Hid ((w7.alloc (.cells #[vi 0,vi 0] 165)).drew.cell? ⟨f,7,none⟩=some (.map (some Y7.bg))/\(w7.alloc (.cells #[vi 0,vi 0] 165)).drew.cell? ⟨x,1,none⟩=some (.int .u32 n)):=az ⟨c7a,x1a⟩;have Kv:Hid (acN w7.heap.size w7 (w7.alloc (.cells #[vi pb,vi pp] 165)).drew):=az ax.drew;have GL:Hid ((w7.alloc (.cells #[vi pb,vi pp] 165)).drew.cell? ⟨f,7,none⟩=some (.map (some Y7.bg))/\(w7.alloc (.cells #[vi pb,vi pp] 165)).drew.cell? ⟨x,1,none⟩=some (.int .u32 n)):=az ⟨cell_below c7 Kv.o,cell_below x1 Kv.o⟩
    clear c7 x1 c7a x1a Ii;go_region_held3 (λW=>W.cell? ⟨f,7,none⟩=some (.map (some Y7.bg))/\W.cell? ⟨x,1,none⟩=some (.int .u32 n))
     (first|exact fV.o|exact HS2.o|exact GL.o)
     (fail)
    all_goals
     go_wp2;go_meet;exact⟨rfl,az ⟨Dp.o.old Kv.o,BG.o.old Kv.o,HA7.o.1.old Kv.o,HA7.o.2.old Kv.o,λi hi c u hu=>cell_below (aeU.o i hi c u hu) Kv.o⟩⟩
   case rest =>
   obtain⟨rfl,hcut⟩:=hcut;have C8:=az hcut.o.1;have zP:=az hcut.o.2.1;have Yl:=az (ae7 hcut.o.2.2.1 hcut.o.2.2.2.1);have abR:=az hcut.o.2.2.2.2;clear hcut l1 l2 Ii c7a x1a Dp BG HA7 aeU c7 x1;have x1:wc.cell? ⟨x,1,none⟩=some (.int .u32 n):=zP.o.cell 1;have Zz:Hid ((F1.dE sl n ⟨qb,qp⟩).dC n=if 0<n/\ok=true then {(F1.dE sl n ⟨qb,qp⟩) with gone:=MP.put Y7.D n ((MP.get Y7.S n).getD default)} else F1.dE sl n ⟨qb,qp⟩):=az (by
    have e1:(F1.dE sl n ⟨qb,qp⟩).gone=Y7.D:=by rw[<-Wp.o]
    have e2:(F1.dE sl n ⟨qb,qp⟩).bD=Y7.S:=by rw[<-Wp.o]
    have e3:MP.get (F1.dE sl n ⟨qb,qp⟩).bD n=MP.get Y7.S n:=by rw[e2]
    rw[<-vM.o]
    unfold FP.Ft.dC
    rw[e1,e3])
   go_upto_region 12 with fail;go_cut [64] from 59 to 63 (λv wx=>v=.bool (decide (0<n/\ok=true))/\wx=wc)
   case first =>
    cases ok
    ·go_wp2;go_meet;exact⟨ai,rfl⟩
    by_cases hn:0<n
    ·have hn':decide (0<n)=true:=decide_eq_true hn;go_wp2;go_meet;exact⟨by simp[hn],rfl⟩
    have hn':¬0<n:=hn;go_wp2;go_meet;exact⟨by simp[hn],rfl⟩
   case rest =>
   obtain⟨rfl,rfl⟩:=hcut;generalize htb:decide (0<n/\ok=true)=tb at*;have HTB:=az htb;clear htb;go_upto_if 64 with fail;go_cut [65] from 65 to 77 (λ_ wx=>∃Z,Hid (aQ aA w f X wx Z/\Z.view=(F1.dE sl n ⟨qb,qp⟩).dC n/\(Z.bs=X.bs/\Z.bn=X.bn/\Z.bg=X.bg)/\Ap f Z wx g/\jR X.bs X.bn g L wx))
   case first =>
    cases tb
    ·go_wp2;go_meet;exact⟨Y7,az ⟨C8.o,by rw[Wp.o,Zz.o,if_neg (of_decide_eq_false HTB.o)],HM7.o,Yl.o.2,abR.o⟩⟩
    go_upto_region 13 with fail;have HD:=az (C8.o.at_.old au);obtain⟨ob,op,L5,Dx⟩:∃ob op:Int,(Instr.lookup 149 (.map (some Y7.bs)) (.int .u32 n) false).run prog wc.drew=.ok (.agg #[vi ob,vi op]) wc.drew/\(MP.get Y7.S n).getD default=⟨ob,op⟩:=by
     have h:=HD.o.bD.lookup underlying149 underlying118 (vR _) n;cases hg:MP.get Y7.S n with
     |none=>rw[hg]at h;exact⟨0,0,h,rfl⟩
     |some p=>rw[hg]at h;exact⟨p.block,p.aB,h,rfl⟩
    have ZC:=az Dx;obtain⟨we,rG,hm,hgr⟩:=rE HD.o.gone n ob op;have hgg:=HD.o.zM hgr hm;have AX:=az ((C8.o.old au).trans hgg);have HAE:=az (ae7 ((Yl.o.1.old au).goes hgg) ((Yl.o.2.old au).goes hgg));have ai8:Hid (jR X.bs X.bn g L we):=az (jR.goes (λi hi c u hu=>cell_below (abR.o i hi c u hu) au) (Yl.o.2.old au) hgg);have HXE:=az ((Yl.o.1.old au).blk hgg (zP.o.old au));have hup:=rG.run;have fV:Hid (wc.drew.cell? ⟨f,7,none⟩=some (.map (some Y7.bg))/\wc.drew.cell? ⟨f,5,none⟩=some (.map (some Y7.bs))/\wc.drew.cell? ⟨x,1,none⟩=some (.int .u32 n)):=az ⟨HD.o.obj.cell 7,HD.o.obj.cell 5,x1⟩
    have HS2:Hid (we.cell? ⟨f,7,none⟩=some (.map (some Y7.bg))/\we.cell? ⟨f,5,none⟩=some (.map (some Y7.bs))/\we.cell? ⟨x,1,none⟩=some (.int .u32 n)):=az ⟨AX.o.at_.obj.cell 7,AX.o.at_.obj.cell 5,HXE.o.cell 1⟩;clear Dx rG hm hgr hgg x1 HXE HD;go_region_held3 (λW=>W.cell? ⟨f,7,none⟩=some (.map (some Y7.bg))/\W.cell? ⟨f,5,none⟩=some (.map (some Y7.bs))/\W.cell? ⟨x,1,none⟩=some (.int .u32 n))
     (first|exact fV.o|exact HS2.o)
     (fail)
    all_goals
     go_wp2;go_meet;exact⟨_,az ⟨AX.o,by
      rw[Zz.o,if_pos (of_decide_eq_true HTB.o),ZC.o,<-Wp.o],HM7.o,HAE.o.2,ai8.o⟩⟩
   case rest =>
   obtain⟨Z,hcut⟩:=hcut;have IB:=az hcut.o.1;have HVZ:=az hcut.o.2.1;have HMZ:=az hcut.o.2.2.1;have HAZ:=az hcut.o.2.2.2.1;have Zo:=az hcut.o.2.2.2.2;have HKZ:Hid (Z.G.view.ok Z.M.view/\Z.M.P<=32):=az (by
    have e1:Z.M.view=F1.c:=by
     have h1:=congrArg FP.Ft.c HVZ.o
     rw[FP.jA]at h1
     refine h1.trans ?_
     dsimp only
     unfold FP.Ft.dE
     split<;>rfl
    have e2:Z.G.view=F1.g:=by
     have h1:=congrArg FP.Ft.g HVZ.o
     rw[FP.jA]at h1
     refine h1.trans ?_
     dsimp only
     unfold FP.Ft.dE
     split<;>rfl
    refine⟨by rw[e1,e2];exact abO.o.2.1,?_⟩
    have e3:Z.M.P=F1.c.P:=congrArg NP.bX.P e1
    have:=sM abO.o.1.ok
    omega)
   have HDR:=az (mgr.rq IB.o.at_.held HKZ.o.1 HKZ.o.2 k);have c1:wc.cell? ⟨f,1,none⟩=some (ptr Z.m):=IB.o.at_.obj.cell 1;clear hcut HTB C8 zP Yl abR x1 Zz Wp HM7 vM abO;go_wp2_with fail;refine HDR.o.mono ?_;rintro e w9 ⟨rfl,TI⟩;have Ym:=IB.o.at_.goes TI;have HST:Hid (abN aA w f X k g L DK (j+1) w9 {Z with G:=Z.G.lay (Z.G.view.drop k).2}):=az (by
    have hv:({Z with G:=Z.G.lay (Z.G.view.drop k).2}:dm).view=V1:=by
     rw[ZF.o,<-HVZ.o]
    exact⟨IB.o.trans Ym,HMZ.o,by rw[hv];exact HI1.o,by rw[hv];exact lF.o,Zo.o.goes HAZ.o Ym,λ_=>HAZ.o.goes Ym⟩)
   have r2:adk.wrap ((j:Int)+1)=((j+1:Nat):Int):=by rw[adl _ (by have h1:=ig.o;have h2:=XP.o;omega)];omega
   clear TI Ym c1 HDR IB HVZ HMZ HAZ Zo HKZ;go_wp2;go_roundw
   case rel=>exact⟨j+1,ig.o,rfl,_,HST⟩
   case measure=>have:=ig.o;simp[intOf];omega
  obtain rfl:j=L.length:=aa;have n1:¬((L.length:Nat):Int)<((L.length:Nat):Int):=aa;have abJ:Hid (Y.view=DK):=az (by
   have h1:=hst.o.run
   rw[List.drop_length]at h1
   injection h1)
  clear hj hlt;go_wp2;go_ret;exact⟨rfl,Y,hst.o.goes,abJ.o,hst.o.maps⟩
end
variable{aA:Nat}{w:acL}{f k:Nat}{X:dm}
def Yn (h:bP aA w f X)(hS:FP.Sound X.view)(hbase:aA<=w.heap.size)(r:Int×FP.Ft)(hq:X.view.act=some r) :
  ac4 prog 170 #[ptr f,.agg #[vi X.view.next.1,vi X.view.next.2]] w (dY aA w f X r):=by
 have HB:Hid (acN w.heap.size w (w.alloc (ach #[vi X.view.next.1,vi X.view.next.2] 229))):=az ax;have FB:Hid (aD (w.alloc (ach #[vi X.view.next.1,vi X.view.next.2] 229)) w.heap.size 229 #[vi X.view.next.1,vi X.view.next.2]):=az (aD.new _ _ _);rcases FP.qP hS with⟨h0,h1⟩|⟨k,f1,f',h0,h1,h2,h3,E⟩
 ·rw[h1]at hq;injection hq with hq;subst hq;have HG:=az (aQ.aX h HB.o);rw[h0]at HB FB HG ⊢;generalize X.view.next.2=k2 at*;clear h hS h1 h0;go_in;go_upto_region 1 with fail;change Code.wp _ _ _ _ (w.alloc (ach #[vi 0,vi k2] 229));generalize w.alloc (ach #[vi 0,vi k2] 229)=w1 at*;have c0:w1.cell? ⟨w.heap.size,0,none⟩=some (vi 0):=FB.o.cell 0;go_wp2;go_ret;exact dY.mk rfl HG.o rfl
 rw[h3]at hq;injection hq with hq;subst hq;have hI:Co k (X.view.needed k) X.view:=by
  obtain⟨k',hk1,hk2,hk3,hk4,_⟩:=FP.NC hS h0;have:k'=k:=by rw[h1]at hk1;omega
  subst this;exact⟨hS,hk2,rfl,hk3,hk4⟩
 have HMV:=az (Vh (h.old HB.o) hS hI f1 E.move (abX hbase HB.o.size));have HE:=az E;have FV:=az (aQ.aX h HB.o);have HA:=az (Ap.new h (ach #[vi X.view.next.1,vi X.view.next.2] 229));rw[h1]at HB FB HMV FV HA ⊢;generalize X.view.next.1=kd at*;clear h hS h1 h3 hI E;go_in;go_upto_region 1 with fail;change Code.wp _ _ _ _ (w.alloc (ach #[vi kd,vi k] 229));generalize w.alloc (ach #[vi kd,vi k] 229)=w1 at*;have c0:w1.cell? ⟨w.heap.size,0,none⟩=some (vi kd):=FB.o.cell 0;have c1:w1.cell? ⟨w.heap.size,1,none⟩=some (vi k):=FB.o.cell 1;have hkd:((kd:Int)==0)=false:=beq_eq_false_iff_ne.2 h0
 go_wp2_with fail;refine HMV.o.mono ?_;rintro e w2 ⟨X2,rfl,hg2,hv2,_⟩;have HG2:=az (FV.o.trans hg2);have lM:=az (dm.fit_of hv2 HE.o.mid.1.fit);have c1:w2.cell? ⟨w.heap.size,1,none⟩=some (vi k):=HA.o.cell hg2 c1;have HWP:=az (Vd HG2.o.at_ lM.o k (by
  have e:X2.M.B=f1.c.B:=congrArg (λv:FP.Ft=>v.c.B) hv2
  rw[e]
  exact HE.o.mid.2) f' (by rw[hv2];exact HE.o.Gm))
 clear hg2 hv2 HMV FV HA c0 hkd;go_wp2_with fail;refine HWP.o.mono ?_;rintro e w3 ⟨X3,rfl,hg3,hv3⟩;have iR:=az (HG2.o.trans hg3);have CV:=az hv3;clear hg3 hv3 HWP;go_wp2;go_ret;exact dY.mk rfl iR.o CV.o
variable{w':acL}
structure abS (aA:Nat)(w:acL)(f:Nat)(X:dm)(r:Int×FP.Ft)(n:Nat)(wr:acL)(Y:dm):Prop where
 goes:aQ aA w f X wr Y
 sound:FP.Sound Y.view
 run:FP.ensureTo n Y.view=some r
variable{F:FP.Ft}{r:Int×FP.Ft}
def zF {n:Nat}(h:FP.ensureTo (n+1) F=some r)(he:FP.enough F.g F.c.P=true):r=(0,F):=by
 unfold FP.ensureTo at h;rw[if_pos he]at h;injection h with h;exact h.symm
def Gt {n:Nat}(h:FP.ensureTo (n+1) F=some r)(he:FP.enough F.g F.c.P=false):∃e F1,F.act=some (e,F1)/\(e=0->FP.ensureTo n F1=some r)/\(e≠0->r=(e,F1)):=by
 unfold FP.ensureTo at h;rw[if_neg (by rw[he];simp)]at h;cases ha:F.act with
 |none=>rw[ha]at h;cases h
 |some q =>
  obtain⟨e,F1⟩:=q;rw[ha]at h;refine⟨e,F1,rfl,λe0=>?_,λe0=>?_⟩;dsimp only at h;rw[if_pos e0]at h;exact h;dsimp only at h;rw[if_neg e0]at h;injection h with h;exact h.symm
variable{e:Int}
def Qb {F1:FP.Ft}(hS:FP.Sound F)(h:F.act=some (e,F1)):FP.Sound F1:=by
 rcases FP.qP hS with⟨_,h1⟩|⟨k,f1,f',_,_,_,h3,E⟩;rw[h1]at h;injection h with h;injection h with _ h;rw[<-h];exact hS;rw[h3]at h;injection h with h;injection h with _ h;rw[<-h];exact E.sound
def LK (h:bP aA w f X)(hS:FP.Sound X.view)(hbase:aA<=w.heap.size)(r:Int×FP.Ft)(hq:X.view.Cf=some r):ac4 prog 144 #[ptr f] w (dY aA w f X r):=by
 obtain⟨c0,_⟩:=h.cells;have H:=az h;have hx:X.Fit:=hS.fit;have hd:=hx.bI;have hm1:8*X.M.B*X.M.P<=8*128*32:=Nat.mul_le_mul aa aa;have hz:(8:Int)*(X.M.B:Int)*(X.M.P:Int)=((8*X.M.B*X.M.P:Nat):Int):=ai;obtain⟨N,hN⟩:∃N,N=8*X.M.B*X.M.P:=⟨_,rfl⟩;have q1:adk.wrap (8*(X.M.B:Int))=8*(X.M.B:Int):=adl _ aa;have q2:adk.wrap (8*(X.M.B:Int)*(X.M.P:Int))=(N:Int):=by rw[hz,hN];exact adl _ aa
 have HST:Hid (FP.Sound X.view/\FP.ensureTo N X.view=some r):=az ⟨hS,by rw[hN];exact hq⟩;have GK:Hid (N<=32768):=az aa;clear h hx hS hq hz hm1 hN hd;go_in;go_wp2_with fail;refine(iZ H.o.held.aW).mono ?_;rintro e w1 ⟨rfl,hb1⟩;have HB1:Hid (acN w.heap.size w (w1.alloc (ach #[vi X.M.B,vi X.M.P,vi X.M.S] 103))):=az (hb1.alloc hb1.size _);have HE1:Hid (abS aA w f X r N (w1.alloc (ach #[vi X.M.B,vi X.M.P,vi X.M.S] 103)) X):=az ⟨aQ.aX H.o HB1.o,HST.o.1,HST.o.2⟩;clear hb1 c0 HST HB1;go_wp2_with fail;go_loopw [16] (λi wr=>∃j:Nat,j<=N/\i=vi j/\∃Y,Hid (abS aA w f X r (N-j) wr Y)) (λi _=>N-(intOf i).toNat)
 case atStart=>exact⟨0,Nat.zero_le _,rfl,X,HE1⟩
 case round =>
  clear HE1;obtain⟨j,hj,rfl,Y,hst⟩:=hrel;by_cases hlt:j<N
  ·have n1:(j:Int)<(N:Int):=aa;have HY:Hid Y.Fit:=az hst.o.sound.fit;have lF:Hid (FP.ensureTo (N-(j+1)+1) Y.view=some r):=az (by rw[show N-(j+1)+1=N-j by omega];exact hst.o.run);have ig:=az hlt;clear hj hlt;go_wp2_with fail;refine(Kw hst.o.goes.at_ HY.o).mono ?_;rintro e w2 ⟨rfl,hb2⟩;have HG2:=az (hst.o.goes.old hb2);have HS2:=az hst.o.sound;clear hb2 hst;cases hen:FP.enough Y.G.view Y.M.P with
   |true =>
    have HR:=az (zF lF.o hen);clear hen;go_wp2;go_ret;exact dY.mk HR.o HG2.o rfl
   |false =>
    obtain⟨ea,F1,ha,h0,h1⟩:=Gt lF.o hen;have c1:w2.cell? ⟨f,1,none⟩=some (ptr Y.m):=HG2.o.at_.obj.cell 1;have iH:=az (mgr.Aq HG2.o.at_.held HY.o.fit (by have h1:=HY.o.WS;have h2:=HY.o.bI;omega));have HNV:Hid (AU Y.G Y.M.P=Y.view.next):=az (Sc rfl _);have HAS:=az (Qb HS2.o ha);have HA:=az ha;have H0:=az h0;have H1:=az h1;clear hen ha h0 h1;rw[HNV.o]at iH;go_wp2_with fail;refine iH.o.mono ?_;rintro e w3 ⟨rfl,hb3⟩;have iR:=az (HG2.o.old hb3);have Xz:=az (Yn (HG2.o.old hb3).at_ HS2.o (abX hbase (HG2.o.old hb3).size) (ea,F1) HA.o)
    clear hb3 iH c1;generalize Y.view.next=nx at*;go_wp2_with fail;refine Xz.o.mono ?_;rintro e w4 ⟨Y4,rfl,hg4,hv4⟩;have qK:=az (iR.o.trans hg4);have HV4:=az hv4;clear hg4 hv4 Xz;dsimp only;by_cases he0:ea=0
    ·subst he0;have HE4:Hid (abS aA w f X r (N-(j+1)) w4 Y4):=az ⟨qK.o,by rw[HV4.o];exact HAS.o,by rw[HV4.o];exact H0.o rfl⟩;have r2:adk.wrap ((j:Int)+1)=((j+1:Nat):Int):=by rw[adl _ (by have h1:=ig.o;have h2:=GK.o;omega)];omega
     go_wp2;go_roundw
     case rel=>exact⟨j+1,ig.o,rfl,Y4,HE4⟩
     case measure=>have:=ig.o;simp[intOf];omega
    have hne:((ea:Int) != 0)=true:=bne_iff_ne.2 he0;have HR:=az (H1.o he0);clear he0;go_wp2;go_ret;exact dY.mk HR.o qK.o HV4.o
  obtain rfl:j=N:=aa;have n1:¬(j:Int)<(j:Int):=aa;have HR:Hid (r=(40,Y.view)):=az (by
   have h1:=hst.o.run
   rw[Nat.sub_self]at h1
   unfold FP.ensureTo at h1
   injection h1 with h1
   exact h1.symm)
  clear hj hlt;go_wp2;go_ret;exact dY.mk HR.o hst.o.goes rfl
variable{aL:Int}{r:(FP.cB×Int)×FP.Ft}
def ym {aB:Nat}{b:List Nat}(h:F.xZ aL aB b=some r):F.later.all (λx=> !x)=true/\∃e1 f1,F.Cf=some (e1,f1) /\
  ((e1≠0/\r=((⟨0,0⟩,e1),f1))\/(e1=0/\∃p f2,f1.put aL aB b=some (p,f2)/\r=((p,0),f2))):=by
 unfold FP.Ft.xZ at h;split at h;rename_i hl;refine⟨hl,?_⟩;cases he:F.Cf with
 |none=>rw[he]at h;cases h
 |some q =>
  obtain⟨e1,f1⟩:=q;rw[he]at h;dsimp only at h;refine⟨e1,f1,rfl,?_⟩;by_cases e0:e1=0;rw[if_neg (by simp[e0])]at h;cases hp:f1.put aL aB b with
  |none=>rw[hp]at h;cases h
  |some q =>
   obtain⟨p,f2⟩:=q;rw[hp]at h;injection h with h;exact .inr ⟨e0,p,f2,rfl,h.symm⟩
  rw[if_pos e0]at h;injection h with h;exact .inl ⟨e0,h.symm⟩
 cases h
def Vi (aA:Nat)(w:acL)(f:Nat)(X:dm)(r:(FP.cB×Int)×FP.Ft)(e:Ending)(w':acL):Prop :=
 ∃X',e=ab4 (.tuple #[dz r.1.1,vi r.1.2])/\aQ aA w f X w' X'/\X'.view=r.2
def Vi.mk {X':dm}{x y n:Int}(hr:r=((⟨x,y⟩,n),V))(hg:aQ aA w f X w' X')(hv:X'.view=V):Vi aA w f X r (ab4 (.tuple #[.agg #[vi x,vi y],vi n])) w' :=
 ⟨X',by rw[hr],hg,by rw[hr];exact hv⟩
def sI (h:bP aA w f X)(hS:FP.Sound X.view)(hbase:aA<=w.heap.size)(aL:Int)(aB:Nat)(a:Option Addr)(b:List Nat)(c:Nat)(hr:dx aA w a b)(hl:b.length<=900000)(r:(FP.cB×Int)×FP.Ft)(hq:X.view.xZ aL aB b=some r) :
  ac4 prog 115 #[ptr f,.agg #[vi aL,vw aB,vq 0,vq 0],.slice a b.length c] w (Vi aA w f X r):=by
 obtain⟨q1,e1,f1,q2,q3⟩:=ym hq;clear hq;have vz:Hid (X.later.all (λx=> !x)=true):=az q1;have HQ3:=az q3;have HSF:Hid (FP.Sound f1):=az (by
  obtain⟨e',f',h1,h2,_⟩:=FP.tL hS
  rw[q2]at h1
  injection h1 with h1
  injection h1 with _ h1
  rw[h1];exact h2)
 clear q1 q3;have F1:Hid (aD ((w.alloc (ach #[vi aL,vw aB,vq 0,vq 0] 170)).alloc (ach #[vi 0,vi 0] 165)) w.heap.size 170 #[vi aL,vw aB,vq 0,vq 0]):=az ((aD.new _ _ _).alloc _);have F2:Hid (aD ((w.alloc (ach #[vi aL,vw aB,vq 0,vq 0] 170)).alloc (ach #[vi 0,vi 0] 165)) (w.heap.size+1) 165 #[vi 0,vi 0]):=az (by
  have:=aD.new (w.alloc (ach #[vi aL,vw aB,vq 0,vq 0] 170)) 165 #[vi 0,vi 0]
  rwa[size_alloc]at this)
 have HB:Hid (acN w.heap.size w ((w.alloc (ach #[vi aL,vw aB,vq 0,vq 0] 170)).alloc (ach #[vi 0,vi 0] 165))):=az (ax.alloc ai _);have HA:Hid (Ap f X ((w.alloc (ach #[vi aL,vw aB,vq 0,vq 0] 170)).alloc (ach #[vi 0,vi 0] 165)) w.heap.size/\Ap f X ((w.alloc (ach #[vi aL,vw aB,vq 0,vq 0] 170)).alloc (ach #[vi 0,vi 0] 165)) (w.heap.size+1)) :=
  az ⟨⟨λe=>by have:=h.lt _ e;omega,by simp;omega⟩,⟨λe=>by have:=h.lt _ e;omega,ai⟩⟩
 have H0:=az h;have H:=az (h.old HB.o);have HX:=az hS;have HR:=az (hr.old HB.o);clear h hS hr;go_in;go_wp2_with fail;generalize (w.alloc (ach #[vi aL,vw aB,vq 0,vq 0] 170)).alloc (ach #[vi 0,vi 0] 165)=w0 at*;obtain⟨tb,htb⟩:∃tb,tb=w.heap.size:=⟨_,rfl⟩;have wU:Hid (w.heap.size<=tb/\w.heap.size<=tb+1/\tb≠tb+1):=az aa;rw[<-htb]at F1 F2 HA ⊢;clear htb;generalize tb+1=qb at*;refine(Iz H.o HX.o.fit vz.o).mono ?_;rintro e w1 ⟨rfl,hb1⟩;have HB1:=az (HB.o.trans (hb1.mono HB.o.size));have H1:=az (H.o.old hb1);have F11:=az (F1.o.old hb1);have F21:=az (F2.o.old hb1)
 have HR1:=az (HR.o.old hb1);have HA1:=az (ae7 (HA.o.1.old hb1) (HA.o.2.old hb1));have FL:=az (LK H1.o HX.o (abX hbase HB1.o.size) (e1,f1) q2);clear hb1 HB H F1 F2 HR HA q2;go_wp2_with fail;refine FL.o.mono ?_;rintro e w2 ⟨X2,rfl,hg2,hv2⟩;dsimp only at hv2;subst hv2;have HG2:=az ((aQ.aX H0.o HB1.o).trans hg2);have F12:=az (HA1.o.1.blk hg2 F11.o);have F22:=az (HA1.o.2.blk hg2 F21.o);have HA2:=az (ae7 (HA1.o.1.goes hg2) (HA1.o.2.goes hg2));have HR2:=az (HR1.o.fD hg2.aJ H1.o.loose);clear hg2 HB1 H1 F11 F21 HR1 HA1 FL;dsimp only;rcases HQ3.o with⟨he,hr⟩|⟨rfl,p,f2,hp,hr⟩
 ·have HE:=az hr;have hne:((e1:Int) != 0)=true:=bne_iff_ne.2 he;clear he hr HQ3;obtain⟨d0,d1,f0,f1'⟩:=bO F22.o;go_wp2_with fail;refine bodyPost_ret (Bc ((F22.o.bB 0 (vi 0)).bB 1 (vi 0)) _ rfl rfl) rfl (Vi.mk HE.o (HG2.o.iT (nH _ _ HG2.o.size wU.o.2.1) ?_) rfl);exact HG2.o.at_.aJ (lY _ _ _ _ _ _) (λn e=>by subst e;exact Loose.blk (abX hbase wU.o.2.1) F22.o) (λn e e2=>HA2.o.2.1 (e2▸e))
 obtain⟨_,_,p3,p4,p5,p6⟩:=Bd hp;have HE:=az hr;have Wn:=az p4;have Ex:=az p5;have Ps:=az p6;have QQ:=(D9 p3).1;dsimp only[dm.view]at p3 Wn Ex Ps QQ;have lX:=az (rC (t:=⟨aL,aB,X2.seq,X2.aM⟩) HR2.o.row.small);have abV:Hid (Loose aA w2 tb):=az (Loose.blk (abX hbase wU.o.1) F12.o);clear hp hr HQ3 p4 p5 p6;go_upto_region 7 with fail;have c8:w2.cell? ⟨f,8,none⟩=some (vq X2.seq):=HG2.o.at_.obj.cell 8;have c9:w2.cell? ⟨f,9,none⟩=some (vq X2.aM):=HG2.o.at_.obj.cell 9;have g2:=F12.o.frozen 2;have g3:=F12.o.frozen 3;have d2:w2.cell? ⟨tb,2,none⟩=some (vq 0):=F12.o.cell 2
 have d3:w2.cell? ⟨tb,3,none⟩=some (vq 0):=F12.o.cell 3;have hfn:¬f=tb:=λe=>HA2.o.1.1 (.inl e.symm)
 have HS:Hid (w2.drew.cell? ⟨f,8,none⟩=some (vq X2.seq)/\w2.drew.cell? ⟨f,9,none⟩=some (vq X2.aM)):=az ⟨c8,c9⟩;have hset:=lY w2 tb 2 3 (vq X2.seq) (vq X2.aM);have iR:Hid (aQ aA w f X ((w2.setCell ⟨tb,2,none⟩ (vq X2.seq)).setCell ⟨tb,3,none⟩ (vq X2.aM)).drew X2):=az (by
  have h1:=HG2.o.iT (nH (i:=2) (j:=3) (vq X2.seq) (vq X2.aM) HG2.o.size wU.o.1) (HG2.o.at_.aJ hset (λn e=>by subst e;exact abV.o) (λn e e2=>HA2.o.1.1 (e2▸e)))
  exact h1.old au)
 have F13:Hid (aD ((w2.setCell ⟨tb,2,none⟩ (vq X2.seq)).setCell ⟨tb,3,none⟩ (vq X2.aM)).drew tb 170 #[vi aL,vw aB,vq X2.seq,vq X2.aM]):=az ((F12.o.bB 2 _).bB 3 _);have F23:=az (F22.o.aJ hset.drew (λe=>wU.o.2.2 e.symm));have HR3:=az (HR2.o.fD hset.drew (λn e=>by subst e;exact abV.o));have OQ:Hid (Ap f X2 ((w2.setCell ⟨tb,2,none⟩ (vq X2.seq)).setCell ⟨tb,3,none⟩ (vq X2.aM)).drew qb):=az ⟨HA2.o.2.1,by have:=HA2.o.2.2;simpa[acL.setCell] using this⟩;have nS:Hid (∀(W:acL) j u,(W.cell? ⟨f,8,none⟩=some (vq X2.seq)/\W.cell? ⟨f,9,none⟩=some (vq X2.aM))->((W.setCell ⟨tb,j,none⟩ u).cell? ⟨f,8,none⟩=some (vq X2.seq)/\(W.setCell ⟨tb,j,none⟩ u).cell? ⟨f,9,none⟩=some (vq X2.aM))) :=
  az (λW j u h=>⟨(acL.cell?_setCell_other _ _ _ _ (λe=>hfn (by injection e with e1;exact e1.symm))).trans h.1,(acL.cell?_setCell_other _ _ _ _ (λe=>hfn (by injection e with e1;exact e1.symm))).trans h.2⟩)
 clear hset;go_region_held3 (λw'=>w'.cell? ⟨f,8,none⟩=some (vq X2.seq)/\w'.cell? ⟨f,9,none⟩=some (vq X2.aM))
  (first|exact HS.o|exact nS.o _ _ _ HS.o|exact nS.o _ _ _ (nS.o _ _ _ HS.o))
  (fail)
 change Exit.then _ _ _ _ ((w2.setCell ⟨tb,2,none⟩ (vq X2.seq)).setCell ⟨tb,3,none⟩ (vq X2.aM)).drew;clear HS c8 c9 g2 g3 d2 d3 nS F12 F22 HR2 HG2 HA2 abV hfn;generalize ((w2.setCell ⟨tb,2,none⟩ (vq X2.seq)).setCell ⟨tb,3,none⟩ (vq X2.aM)).drew=w3 at*;have d0:w3.cell? ⟨tb,0,none⟩=some (vi aL):=F13.o.cell 0;have d1:w3.cell? ⟨tb,1,none⟩=some (vw aB):=F13.o.cell 1;have d2:w3.cell? ⟨tb,2,none⟩=some (vq X2.seq):=F13.o.cell 2;have d3:w3.cell? ⟨tb,3,none⟩=some (vq X2.aM):=F13.o.cell 3;go_wp2_with fail;refine(Ku ⟨aL,aB,X2.seq,X2.aM⟩ a b c w3 HR3.o.row hl).mono ?_;rw[p3]
 rintro e w4 ⟨v4,rfl,zm,hb4⟩;obtain⟨a4,k4,rfl,hs4,hl4,hc4,_⟩:=zm.Db (aA:=aA) lX.o;have qK:=az (iR.o.old hb4);have F24:=az (F23.o.old hb4);have GJ:=az (OQ.o.old hb4);have vB:=az hs4;clear hb4 zm hs4 iR F13 F23 HR3 OQ d0 d1 d2 d3;have c8:w4.cell? ⟨f,8,none⟩=some (vq X2.seq):=qK.o.at_.obj.cell 8;have f8:=qK.o.at_.obj.frozen 8;have Zp:=az (qK.o.at_.field (X':={X2 with seq:=X2.seq+1}) 8 (vq (X2.seq+1)) rfl ⟨rfl,rfl,rfl⟩ ⟨qK.o.at_.text,qK.o.at_.lC⟩ ⟨rfl,rfl⟩ ⟨rfl,rfl⟩ ⟨rfl,rfl⟩ ⟨rfl,rfl,rfl⟩ (abX hbase qK.o.size));have F25:=az (GJ.o.blk Zp.o F24.o)
 have zo:=az (GJ.o.goes Zp.o);have mY:=az (vB.o.fD Zp.o.aJ qK.o.at_.loose);have Bl:=az (qK.o.trans Zp.o);have abW:((X2.seq:Int)+1)%18446744073709551616=(X2.seq:Int)+1:=aa;go_upto_region 12 with fail;change Code.wp _ _ _ _ (w4.setCell ⟨f,8,none⟩ (vq (X2.seq+1)));clear c8 f8 abW F24 vB qK Zp GJ;generalize w4.setCell ⟨f,8,none⟩ (vq (X2.seq+1))=w5 at*;have Nc:Hid (gW X2.M.view/\X2.G.view.ok X2.M.view):=az ⟨HSF.o.cg.good,HSF.o.cg.lL⟩;have zU:=az (Dl Bl.o.at_ Nc.o.1 Nc.o.2 a4 _ k4 mY.o Wn.o (abX hbase Bl.o.size));dsimp only[dm.view]at zU
 rw[<-Ex.o]at zU;clear Wn Ex;generalize (TP.write ⟨aL,aB,X2.seq,X2.aM⟩ b).1=wl at*;go_wp2_with fail;refine zU.o.mono ?_;rintro e w6 ⟨X6,rfl,uy,hv6⟩;have F26:=az (zo.o.blk uy F25.o);have HA6:=az (zo.o.goes uy);have O5:=az (Bl.o.trans uy);have UC:Hid (X6.view=f2):=az (by rw[hv6,Ps.o]);clear uy hv6 zU Bl zo F25;obtain⟨pb,pp⟩:=p;obtain⟨d0,d1,f0,f1⟩:=bO F26.o;go_wp2_with fail;refine bodyPost_ret (Bc ((F26.o.bB 0 (vi pb)).bB 1 (vi pp)) _ rfl rfl) rfl (Vi.mk HE.o (O5.o.iT (nH _ _ O5.o.size wU.o.2.1) ?_) UC.o);exact O5.o.at_.aJ (lY _ _ _ _ _ _) (λn e=>by subst e;exact Loose.blk (abX hbase wU.o.2.1) F26.o) (λn e e2=>HA6.o.1 (e2▸e))
def writeG_eq (F:FP.Ft)(aB:Nat)(b:List Nat):F.Cg aB b=if F.logical aB≠0 then some (F.logical aB,F) else if b.length≠F.c.S then some (1,F) else if F.shut then some (41,F) else
  if MP.has F.now aB=false/\F.cap<=F.used then some (40,F) else
  match F.xZ 1 aB b with
  |none=>none
  |some ((p,e),f1)=>if e≠0 then some (e,f1) else some (0,{older f1 aB with now:=MP.put f1.now aB p,gone:=MP.del f1.gone aB}):=rfl
def Vj {aB:Nat}{b:List Nat}{p:FP.cB}(hS:FP.Sound F)(hb:∀y∈b,y<256)(h:F.xZ aL aB b=some ((p,e),V)):Fit V:=by
 obtain⟨_,e1,f1,h1,h2⟩:=ym h;obtain⟨e',f',h3,h4,_⟩:=FP.tL hS;rw[h1]at h3;injection h3 with h3;injection h3 with _ h3;subst h3;rcases h2 with⟨_,h5⟩|⟨_,p',f2,h5,h6⟩;injection h5 with _ h5;rw[h5];exact h4.fit;injection h6 with _ h6;rw[h6];exact(Fit.put h4.fit hb h5).1
def oM (h:bP aA w f X)(hS:FP.Sound X.view)(hbase:aA<=w.heap.size)(aB:Nat)(hp:aB<4294967296)(a:Option Addr)(b:List Nat)(c:Nat)(hr:dx aA w a b)(hl:b.length<=900000)(r:Int×FP.Ft)(hq:X.view.Cg aB b=some r) :
  ac4 prog 75 #[ptr f,vw aB,.slice a b.length c] w (dY aA w f X r):=by
 have H:=az h;have HX:Hid X.Fit:=az hS.fit;have HSX:=az hS;have HR:=az hr;rw[writeG_eq]at hq;have jS:Hid (X.view.c.S=X.M.S):=az rfl;rw[jS.o]at hq;have HQ:=az hq;clear h hS hr hq;go_in;go_wp2_with fail;refine(rA H.o HX.o aB hp).mono ?_;rintro e w1 ⟨rfl,hb1⟩;have HB1:=az hb1;have H1:=az (H.o.old hb1);clear hb1;generalize X.view.logical aB=lg at*;by_cases h0:lg=0
 ·subst h0;have HQ:Hid _:=az ((if_neg ai).symm.trans HQ.o);have c6:w1.cell? ⟨f,6,none⟩=some (.map (some X.bn)):=H1.o.obj.cell 6;obtain⟨pb,pp,ok,L,hsome,hnone⟩:=vV H1.o.now aB;have vM:Hid (MP.has X.N aB=ok):=az (by
   unfold MP.has
   cases ok
   rw[hnone rfl];rfl
   rw[hsome rfl];rfl)
  clear hsome hnone;go_upto_region 5 with fail;have H2:Hid (bP aA (w1.alloc (ach #[vi pb,vi pp] 165)) f X):=az (H1.o.old ax);have HB2:Hid (acN w.heap.size w (w1.alloc (ach #[vi pb,vi pp] 165))):=az (HB1.o.alloc HB1.o.size _);clear L H1 HB1 c6;generalize w1.alloc (ach #[vi pb,vi pp] 165)=w2 at*;go_wp2_with fail;refine(Iy H2.o).mono ?_;rintro e w3 ⟨rfl,hb3⟩;have HB3:=az (HB2.o.trans (hb3.mono HB2.o.size));have H3:=az (H2.o.old hb3);clear hb3 H2 HB2;by_cases hS:b.length=X.M.S
  ·have HQ:Hid _:=az ((if_neg (by simpa using hS)).symm.trans HQ.o);have hS':((b.length:Int) != (X.M.S:Int))=false:=by simp[hS]
   have HS:=az hS;clear hS;go_wp2_with fail;refine(vS H3.o HX.o).mono ?_;rintro e w4 ⟨rfl,hb4⟩;have pI:=az (HB3.o.trans (hb4.mono HB3.o.size));have H4:=az (H3.o.old hb4);clear hb4 H3 HB3;generalize X.view.shut=sh at*;cases sh
   ·have HQ:Hid _:=az ((if_neg ai).symm.trans HQ.o);go_upto_region 9 with fail;go_cut [38] from 39 to 86 (λv wx=>v=.bool (decide (MP.has X.N aB=false/\X.view.cap<=X.view.used))/\Hid (acN w.heap.size w wx))
    case first =>
     cases ok
     ·go_wp2_with fail;refine(SL H4.o HX.o).mono ?_;rintro e w5 ⟨rfl,hb5⟩;have qG:=az (pI.o.trans (hb5.mono pI.o.size));have H5:=az (H4.o.old hb5);clear hb5;go_wp2_with fail;refine(pF H5.o HX.o).mono ?_;rintro e w6 ⟨rfl,hb6⟩;have uC:=az (qG.o.trans (hb6.mono qG.o.size));clear hb6 H5 qG;generalize hce:X.view.cap=cp;generalize hue:X.view.used=us;have HCE:=az hce;have HUE:=az hue;clear hce hue;by_cases hcu:cp<=us
      ·go_wp2;go_meet;exact⟨by rw[vM.o,HCE.o,HUE.o];first|(simp;done)|simp[hcu],uC⟩
      go_wp2;go_meet;exact⟨by rw[vM.o,HCE.o,HUE.o];first|(simp;done)|simp[hcu],uC⟩
     go_wp2;go_meet;exact⟨by rw[vM.o];simp,pI⟩
    case rest =>
    obtain⟨rfl,HBC⟩:=hcut;have HC:=az (H.o.old HBC.o);have HGC:=az (aQ.aX H.o HBC.o);have Wd:=az (HR.o.old HBC.o);clear H4 pI HR vM;by_cases hbad:MP.has X.N aB=false/\X.view.cap<=X.view.used
    ·have HQ:Hid _:=az ((if_pos hbad).symm.trans HQ.o);rw[decide_eq_true hbad];clear hbad;go_wp2;go_ret;exact dY.mk (by have:=HQ.o;cases this;rfl) HGC.o rfl
    have HQ:Hid _:=az ((if_neg hbad).symm.trans HQ.o);rw[decide_eq_false hbad];clear hbad;cases hput:X.view.xZ 1 aB b with
    |none =>
     rw[hput]at HQ;cases HQ.o
    |some q =>
     obtain⟨⟨⟨qb,qp⟩,e0⟩,V⟩:=q;rw[hput]at HQ;have zU:=az (sI HC.o HSX.o (abX hbase HBC.o.size) 1 aB a b c Wd.o hl _ hput);have HFV:Hid (Fit V):=az (Vj HSX.o Wd.o.row.small hput);clear hput;go_wp2_with fail;refine zU.o.mono ?_;rintro e w7 ⟨X7,rfl,yO,hv7⟩;dsimp only at hv7 ⊢;have Dp:=az (HGC.o.trans yO);have Wp:=az hv7;have BG:=az (dm.fit_of hv7 HFV.o);clear yO hv7 zU HC HGC Wd;by_cases he0:¬e0=0
     ·have ZR:Hid (r=(e0,V)):=az (by
       have h1:=HQ.o
       rw[if_pos he0]at h1
       injection h1 with h1
       exact h1.symm)
      have hne:((e0:Int) != 0)=true:=bne_iff_ne.2 he0;clear he0 HQ;go_wp2;go_ret;exact dY.mk ZR.o (Dp.o.old ax) Wp.o
     obtain rfl:e0=0:=ad2 he0;have HQ:Hid _:=az ((if_neg ai).symm.trans HQ.o);go_upto_region 14 with fail;have ZT:Hid (aD (w7.alloc (ach #[vi qb,vi qp] 165)) w7.heap.size 165 #[vi qb,vi qp]):=az (aD.new _ _ _);have C8:=az (Dp.o.old (ak.alloc aj (ach #[vi qb,vi qp] 165)));have HN7:Hid (¬X7.foot f w7.heap.size):=az (λe=>by have:=Dp.o.at_.lt _ e;omega);clear Dp;generalize w7.alloc (ach #[vi qb,vi qp] 165)=w8 at*;generalize w7.heap.size=g7 at*;have c6:w8.cell? ⟨f,6,none⟩=some (.map (some X7.bn)):=C8.o.at_.obj.cell 6
     obtain⟨ob,op,ok2,L,hsome,hnone⟩:=vV C8.o.at_.now aB;have HXN:Hid (X7.N=V.now):=az (congrArg FP.Ft.now Wp.o);have SQ:=az hsome;have QS:=az hnone;clear hsome hnone;go_upto_region 15 with fail;have FB9:Hid (aD (w8.alloc (ach #[vi ob,vi op] 165)) w8.heap.size 165 #[vi ob,vi op]):=az (aD.new _ _ _);have abY:Hid (aD (w8.alloc (ach #[vi ob,vi op] 165)) g7 165 #[vi qb,vi qp]):=az (ZT.o.alloc _);have Ej:=az (C8.o.old (ak.alloc aj (ach #[vi ob,vi op] 165)));have ZM:Hid (¬X7.foot f w8.heap.size):=az (λe=>by have:=C8.o.at_.lt _ e;omega)
     clear C8 c6 L ZT;generalize w8.alloc (ach #[vi ob,vi op] 165)=w9 at*;generalize w8.heap.size=g9 at*;go_upto_if 68 with fail;go_cut [69] from 69 to 86 (λ_ wx=>Hid (aD wx g7 165 #[vi qb,vi qp])/\∃Y,Hid (aQ aA w f X wx Y/\Y.view=older V aB))
     case first =>
      cases ok2
      ·have HO:Hid (older V aB=V):=az (by
        have:=QS.o rfl
        rw[HXN.o]at this
        unfold older
        rw[this])
       go_wp2;go_meet;exact⟨abY,X7,az ⟨Ej.o,by rw[HO.o];exact Wp.o⟩⟩
      have HO:Hid (older V aB={V with g:=(V.g.drop ob).2}):=az (by
       have:=SQ.o rfl
       rw[HXN.o]at this
       unfold older
       rw[this])
      go_upto_region 16 with fail;obtain⟨d0,d1,_,_⟩:=bO FB9.o;have c1:w9.cell? ⟨f,1,none⟩=some (ptr X7.m):=Ej.o.at_.obj.cell 1;have HS:Hid (w9.drew.cell? ⟨f,1,none⟩=some (ptr X7.m)/\w9.drew.cell? ⟨g9,0,none⟩=some (vi ob)):=az ⟨c1,d0⟩;have OB:=az (Ea (Ej.o.at_.old au) BG.o ob);have nS:Hid (∀W,aQ aA w9.drew f X7 W {X7 with G:=X7.G.lay (X7.G.view.drop ob).2}->(W.cell? ⟨f,1,none⟩=some (ptr X7.m)/\W.cell? ⟨g9,0,none⟩=some (vi ob))) :=
       az (λW q=>⟨q.at_.obj.cell 1,(q.far (FB9.o.old au) ZM.o).cell 0⟩)
      go_region_held3 (λw'=>w'.cell? ⟨f,1,none⟩=some (ptr X7.m)/\w'.cell? ⟨g9,0,none⟩=some (vi ob))
       (first|exact HS.o|exact nS.o _ (by assumption))
       (first|(go_at_call 109;refine OB.o.mono ?_;rintro e wd ⟨rfl,hgd⟩))
      have oC:=az ((Ej.o.old au).trans hgd);have FBD:=az (hgd.far (abY.o.old au) HN7.o);clear hgd nS HS OB c1 d0 d1;go_wp2;go_meet;exact⟨FBD,_,az ⟨oC.o,by rw[HO.o,<-Wp.o]⟩⟩
     case rest =>
     obtain⟨FBC,Y,hcut⟩:=hcut;have MM:=az hcut.1;have Ze:=az hcut.2;clear hcut abY FB9 Ej ZM HN7 SQ QS;have HYN:Hid (Y.N=V.now/\Y.D=V.gone):=az ⟨congrArg FP.Ft.now Ze.o,congrArg FP.Ft.gone Ze.o⟩;go_upto_region 17 with fail;obtain⟨y0,y1,_,_⟩:=bO FBC.o;have c6:wc.cell? ⟨f,6,none⟩=some (.map (some Y.bn)):=MM.o.at_.obj.cell 6;obtain⟨we,rG,hm,hgr⟩:=rE (MM.o.at_.old au).now aB qb qp;have AX:=az ((MM.o.old au).trans ((MM.o.at_.old au).Fp hgr hm));have hup:=rG.run;clear rG hm hgr;go_region_law (fail)
     all_goals
      have c7:we.cell? ⟨f,7,none⟩=some (.map (some Y.bg)):=AX.o.at_.obj.cell 7;obtain⟨wf,hdel,SV,IA⟩:=xH AX.o.at_.gone aB;have vQ:=az hdel;have HGF:=az (AX.o.trans (AX.o.at_.zM IA SV));clear hdel SV IA hup c6 y0 y1;go_wp2_with (at_delete;refine eu rfl (.tmp 85) (.tmp 86) rfl rfl rfl (vQ.o.run _) ?_);go_ret;refine dY.mk (by have:=HQ.o;cases this;rfl) HGF.o ?_;have:=Ze.o;rw[<-HYN.o.1,<-HYN.o.2,<-this]
   have HQ:Hid _:=az ((if_pos rfl).symm.trans HQ.o);have HG:=az (aQ.aX H.o pI.o);go_wp2;go_ret;exact dY.mk (by have:=HQ.o;cases this;rfl) HG.o rfl
  have HQ:Hid _:=az ((if_pos hS).symm.trans HQ.o);have hS':((b.length:Int) != (X.M.S:Int))=true:=by simp;omega
  have HG:=az (aQ.aX H.o HB3.o);clear hS;go_wp2;go_ret;exact dY.mk (by have:=HQ.o;cases this;rfl) HG.o rfl
 have HQ:Hid _:=az ((if_pos h0).symm.trans HQ.o);have HG:=az (aQ.aX H.o HB1.o);go_wp2;go_ret;exact dY.mk (by have:=HQ.o;cases this;rfl) HG.o rfl
def sealedG_eq (F:FP.Ft)(text:List Nat):F.p8 text=if F.ready≠0 then some (F.ready,F) else if (text.length:Int)≠F.c.S-8 then some (1,F) else if F.shut then some (41,F) else
  match F.xZ 2 0 (FP.jJ F.aC F.bad text) with
  |none=>none
  |some ((p,e),f1)=>if e≠0 then some (e,f1) else some (0,IG f1 p text):=rfl
def Qc {aB:Nat}{b:List Nat}{p:FP.cB}(hS:FP.Sound F)(hb:∀y∈b,y<256)(h:F.xZ aL aB b=some ((p,e),V)) :
  Fit V/\V.aC=F.aC/\V.bad=F.bad/\(e=0->V.aM<4611686018427387904):=by
 obtain⟨_,e1,f1,h1,h2⟩:=ym h;obtain⟨e',f',h3,h4,hk,_⟩:=FP.tL hS;rw[h1]at h3;injection h3 with h3;injection h3 with _ h3;subst h3;rcases h2 with⟨h6,h5⟩|⟨_,p',f2,h5,h6⟩;injection h5 with h7 h5;injection h7 with _ h7;rw[h5];exact⟨h4.fit,hk.num.1,hk.num.2.1,λh8=>absurd (h7.symm.trans h8) h6⟩;injection h6 with _ h6;rw[h6];have h8:=Fit.put h4.fit hb h5;refine⟨h8.1,h8.2.2.2.2.2.1.trans hk.num.1,h8.2.2.2.2.2.2.1.trans hk.num.2.1,λ_=>?_⟩;rw[h8.2.2.2.2.2.2.2.2.2.1];exact(D9 (Bd h5).2.2.1).2.1
def aeZ (aA:Nat)(w:acL)(f:Nat)(X:dm)(p:FP.cB)(n:Int)(V:FP.Ft)(e:Ending)(w':acL):Prop :=
 ∃X',e=ab4 (.tuple #[dz p,vi n])/\aQ aA w f X w' X'/\X'.view=V
variable{X':dm}
def Seal_any (h:bP aA w f X)(LM:FP.Sound X.view)(hbase:aA<=w.heap.size)(a:Option Addr)(b:List Nat)(c:Nat)(hr:dx aA w a b)(hl:b.length<=10000)(r:Int×FP.Ft)(hq:X.view.p8 b=some r) :
  ac4 prog 76 #[ptr f,.slice a b.length c] w (dY aA w f X r):=by
 have H:=az h;have hx:X.Fit:=LM.fit;have HX:=az hx;have HSX:=az LM;have HR:=az hr;rw[sealedG_eq]at hq;have jS:Hid (X.view.c.S=X.M.S):=az rfl;rw[jS.o]at hq;have HQ:=az hq;have alr:=hx.size;have anU:=hx.bI.2.2.2.2;have q8:adk.wrap ((X.M.S:Int)-8)=(X.M.S:Int)-8:=adl _ aa;clear h hx hr hq LM;go_in;go_wp2_with fail;refine(ou H.o).mono ?_;rintro e w' ⟨rfl,rfl⟩;generalize X.view.ready=lg at*;by_cases h0:lg=0
 ·subst h0;have HQ:Hid _:=az ((if_neg ai).symm.trans HQ.o);go_wp2_with fail;refine(Iy H.o).mono ?_;rintro e w3 ⟨rfl,hb3⟩;have HB3:=az hb3;have H3:=az (H.o.old hb3);clear hb3;by_cases hS:(b.length:Int)=X.M.S-8
  ·have HQ:Hid _:=az ((if_neg (by simpa using hS)).symm.trans HQ.o);have hS':((b.length:Int) != (X.M.S:Int)-8)=false:=by simp[hS]
   have HS:=az hS;clear hS;go_wp2_with fail;refine(vS H3.o HX.o).mono ?_;rintro e w4 ⟨rfl,hb4⟩;have pI:=az (HB3.o.trans (hb4.mono HB3.o.size));have H4:=az (H3.o.old hb4);clear hb4 H3 HB3;generalize X.view.shut=sh at*;cases sh
   ·have HQ:Hid _:=az ((if_neg ai).symm.trans HQ.o);cases hput:X.view.xZ 2 0 (FP.jJ X.view.aC X.view.bad b) with
    |none =>
     rw[hput]at HQ;cases HQ.o
    |some q =>
     obtain⟨⟨⟨qb,qp⟩,e0⟩,V⟩:=q;rw[hput]at HQ;have ZR:Hid ((if e0≠0 then some (e0,V) else some ((0:Int),IG V ⟨qb,qp⟩ b))=some r):=HQ;clear HQ;have UK:=az hput;have lX:=az (o7 (aC:=X.view.aC) (bad:=X.view.bad) HR.o.row.small);have HFV:=az (Qc HSX.o lX.o hput);have HHL:Hid ((FP.jJ X.view.aC X.view.bad b).length<=900000):=az (by unfold FP.jJ;simp;omega);clear hput;go_upto_region 8 with fail;have c2:w4.cell? ⟨f,2,none⟩=some (vi X.aC):=H4.o.obj.cell 2;have c3:w4.cell? ⟨f,3,none⟩=some (vi X.bad):=H4.o.obj.cell 3;have HS:Hid (w4.drew.cell? ⟨f,2,none⟩=some (vi X.aC)/\w4.drew.cell? ⟨f,3,none⟩=some (vi X.bad)):=az ⟨c2,c3⟩
     have H4D:=az (H4.o.old au);have qK:=az ((aQ.aX H.o pI.o).trans (aQ.aX H4.o au));have bK:=az (HR.o.old pI.o.drew);have HHD:Hid (∀W,acN w4.drew.heap.size w4.drew W->ac4 prog 117 #[vi X.aC,vi X.bad,.slice a b.length c] W λe w'=>∃v,e=.returned v/\Own w' W.heap.size v (FP.jJ X.aC X.bad b)/\acN W.heap.size W w') :=
      az (λW hb=>SY X.aC X.bad a b c W (bK.o.old hb).row hl ⟨HX.o.res.1,HX.o.res.2.1⟩ ⟨HX.o.res.2.2.1,HX.o.res.2.2.2⟩)
     have Bq:Hid (∀W a5 k5,acN w4.drew.heap.size w4.drew W->dx aA W a5 (FP.jJ X.aC X.bad b)->ac4 prog 115 #[ptr f,.agg #[.int .i64 2,.int .u32 0,.int .u64 0,.int .u64 0],.slice a5 (FP.jJ X.aC X.bad b).length k5] W (aeZ aA W f X ⟨qb,qp⟩ e0 V)) :=
      az (λW a5 k5 hb hs=>sI (H4D.o.old hb) HSX.o (abX hbase (abX pI.o.size hb.size)) 2 0 a5 _ k5 hs HHL.o _ UK.o)
     have HK1:Hid (∀W,acN w4.drew.heap.size w4.drew W->(W.cell? ⟨f,2,none⟩=some (vi X.aC)/\W.cell? ⟨f,3,none⟩=some (vi X.bad))):=az (λW hb=>⟨cell_below HS.o.1 hb,cell_below HS.o.2 hb⟩);have zG:Hid (∀W W' Y,aQ aA W f X W' Y->Y.view=V->(W'.cell? ⟨f,2,none⟩=some (vi X.aC)/\W'.cell? ⟨f,3,none⟩=some (vi X.bad))):=az (λW W' Y q e=>by
      have e1:Y.aC=X.aC:=(congrArg FP.Ft.aC e).trans HFV.o.2.1
      have e2:Y.bad=X.bad:=(congrArg FP.Ft.bad e).trans HFV.o.2.2.1
      rw[<-e1,<-e2]
      exact⟨q.at_.obj.cell 2,q.at_.obj.cell 3⟩)
     have uE:Hid (∀(W:acL) o,(W.cell? ⟨f,2,none⟩=some (vi X.aC)/\W.cell? ⟨f,3,none⟩=some (vi X.bad))->((W.alloc o).cell? ⟨f,2,none⟩=some (vi X.aC)/\(W.alloc o).cell? ⟨f,3,none⟩=some (vi X.bad))) :=
      az (λW o h=>⟨cell_below h.1 ax,cell_below h.2 ax⟩)
     have KO:Hid (f<w4.heap.size):=az H4.o.obj.lt;have HK4:Hid (∀(W:acL) g u v,w4.heap.size<=g->(W.cell? ⟨f,2,none⟩=some (vi X.aC)/\W.cell? ⟨f,3,none⟩=some (vi X.bad))->(((W.setCell ⟨g,0,none⟩ u).setCell ⟨g,1,none⟩ v).cell? ⟨f,2,none⟩=some (vi X.aC)/\((W.setCell ⟨g,0,none⟩ u).setCell ⟨g,1,none⟩ v).cell? ⟨f,3,none⟩=some (vi X.bad))) :=
      az (λW g u v hg h=>⟨(lY W g 0 1 u v).cell h.1 (by have:=KO.o;dsimp only;omega),(lY W g 0 1 u v).cell h.2 (by have:=KO.o;dsimp only;omega)⟩)
     have Zd:Hid (∀g,w4.heap.size<=g->¬X.foot f g):=az (λg hg e=>by have:=H4.o.lt _ e;omega);generalize FP.jJ X.aC X.bad b=hd at*;go_cut [6,7] from 29 to 135 (λv6 v7 wx=>∃g7 X6,v6=.pointer (some ⟨g7,0,none⟩)/\v7=vi e0/\Hid (aD wx g7 165 #[vi qb,vi qp])/\Hid (aQ aA w' f X wx X6/\X6.view=V))
     case first =>
      go_region_held3 (λw'=>w'.cell? ⟨f,2,none⟩=some (vi X.aC)/\w'.cell? ⟨f,3,none⟩=some (vi X.bad))
       (first
        |exact HS.o
        |exact uE.o _ _ HS.o
        |exact HK1.o _ (by assumption)
        |exact uE.o _ _ (HK1.o _ (by assumption))
        |exact zG.o _ _ _ (by assumption) (by assumption)
        |exact uE.o _ _ (zG.o _ _ _ (by assumption) (by assumption))
        |exact HK4.o _ _ _ _ (by assumption) (zG.o _ _ _ (by assumption) (by assumption)))
       (first
        |(go_at_call 117;first
          |(refine(HHD.o _ ak).mono ?_;rintro e w5 ⟨v5,rfl,jT,hb5⟩;obtain⟨a5,k5,rfl,hs5,hl5,JR,_⟩:=jT.Db (aA:=aA) lX.o)
          |(refine(HHD.o (w4.drew.alloc (.cells #[vi 0,vi 0] 165)) ax).mono ?_;rintro e w5 ⟨v5,rfl,jT,hbx⟩;obtain⟨a5,k5,rfl,hs5,hl5,JR,_⟩:=jT.Db (aA:=aA) lX.o
            have hb5:=((acN.refl w4.drew.heap.size w4.drew).alloc aj (.cells #[vi 0,vi 0] 165)).trans (hbx.mono ai)
            have fb5:=(aD.new w4.drew 165 #[vi 0,vi 0]).old hbx))
        |(go_at_call 115;first
          |(refine(Bq.o (w5.alloc (.cells #[vi 0,vi 0] 165)) _ _ (hb5.alloc hb5.size _) (hs5.old ax)).mono ?_;rintro e w6 ⟨X6,rfl,uy,hv6⟩
            have hge:w4.heap.size<=w5.heap.size:=hb5.size
            have fb6:=uy.far (aD.new w5 165 #[vi 0,vi 0]) (Zd.o _ hge)
            obtain⟨z0,z1,z2,z3⟩:=bO fb6)
          |(refine(Bq.o _ _ _ hb5 hs5).mono ?_;rintro e w6 ⟨X6,rfl,uy,hv6⟩
            have hge:w4.heap.size<=w4.heap.size:=aj
            have fb6:aD w6 w4.heap.size 165 #[vi 0,vi 0]:=uy.far fb5 (Zd.o _ hge)
            obtain⟨z0,z1,z2,z3⟩:=bO fb6)
          |(refine(Bq.o _ _ _ hb5 hs5).mono ?_;rintro e w6 ⟨X6,rfl,uy,hv6⟩)))
      ·go_wp2;go_meet;exact⟨w6.heap.size,X6,rfl,rfl,az (aD.new _ _ _),az ⟨(qK.o.trans ((aQ.aX H4D.o hb5).trans uy)).old ax,hv6⟩⟩
      ·have hw:=qK.o.trans ((aQ.aX H4D.o (hb5.alloc hb5.size (.cells #[vi 0,vi 0] 165))).trans uy);have hsz:w'.heap.size<=w4.heap.size:=pI.o.size;have ff:=hw.fill (g:=w5.heap.size) aa fb6 (λe=>by
        rcases uy.foot _ e with h1|h1
        exact Zd.o _ hge h1
        simp at h1;omega) aa (vi qb) (vi qp)
       go_wp2;go_meet;exact⟨w5.heap.size,X6,rfl,rfl,az ff.1,az ⟨ff.2,hv6⟩⟩
      have hw:=qK.o.trans ((aQ.aX H4D.o hb5).trans uy);have hsz:w'.heap.size<=w4.heap.size:=pI.o.size;have ff:=hw.fill (g:=w4.heap.size) hsz fb6 (λe=>by
       rcases uy.foot _ e with h1|h1
       exact Zd.o _ hge h1
       have h2:w4.heap.size<w5.heap.size:=fb5.lt
       omega) aa (vi qb) (vi qp)
      go_wp2;go_meet;exact⟨w4.heap.size,X6,rfl,rfl,az ff.1,az ⟨ff.2,hv6⟩⟩
     case rest =>
     obtain⟨g7,X6,rfl,rfl,ZT,hcut⟩:=hcut;have Dp:=az hcut.1;have UC:=az hcut.2;clear hcut HHD Bq HK1 zG uE HK4 HS c2 c3 H4D H4 pI lX HHL UK Zd KO qK bK;by_cases he0:¬e0=0
     ·have Yo:Hid (r=(e0,V)):=az (by
       have h1:=ZR.o
       rw[if_pos he0]at h1
       injection h1 with h1
       exact h1.symm)
      have hne:((e0:Int) != 0)=true:=bne_iff_ne.2 he0;clear he0 ZR;go_wp2;go_ret;exact dY.mk Yo.o Dp.o UC.o
     obtain rfl:e0=0:=ad2 he0;have Yo:Hid (some ((0:Int),IG V ⟨qb,qp⟩ b)=some r):=az ((if_neg (by simp:¬(0:Int)≠0)).symm.trans ZR.o);have HEP:Hid (V.aM<4611686018427387904):=az (HFV.o.2.2.2 rfl);have aje:=az HFV.o.1;clear he0 ZR HFV;have ZR:=Yo;clear Yo;go_upto_region 11 with fail;obtain⟨y0,y1,_,_⟩:=bO ZT.o;have c6:wc.cell? ⟨f,6,none⟩=some (.map (some X6.bn)):=Dp.o.at_.obj.cell 6;obtain⟨w8,rG,hm,hgr⟩:=rE (Dp.o.at_.old au).now 0 qb qp;have C8:=az ((Dp.o.old au).trans ((Dp.o.at_.old au).Fp hgr hm))
     have hup:(Instr.mapUpdate 149 (.map (some X6.bn)) (.int .u32 0) (.agg #[vi qb,vi qp])).run prog wc.drew=.ok () w8:=rG.run;have ab0:X6.bn≠g7:=Dp.o.at_.now.dM ZT.o;have mV:Hid (w8.cell? ⟨f,6,none⟩=some (.map (some X6.bn))/\w8.cell? ⟨g7,0,none⟩=some (vi qb)/\w8.cell? ⟨g7,1,none⟩=some (vi qp)):=az ⟨C8.o.at_.obj.cell 6,
      (ZT.o.drew.grown hgr (λe=>by injection e with e;exact ab0 e.symm)).cell 0,(ZT.o.drew.grown hgr (λe=>by injection e with e;exact ab0 e.symm)).cell 1⟩
     have mZ:Hid (wc.drew.cell? ⟨f,6,none⟩=some (.map (some X6.bn))/\wc.drew.cell? ⟨g7,0,none⟩=some (vi qb)/\wc.drew.cell? ⟨g7,1,none⟩=some (vi qp)):=az ⟨c6,y0,y1⟩;clear rG hm hgr ab0;go_region_held3 (λW=>W.cell? ⟨f,6,none⟩=some (.map (some X6.bn))/\W.cell? ⟨g7,0,none⟩=some (vi qb)/\W.cell? ⟨g7,1,none⟩=some (vi qp))
      (first|exact mZ.o|exact mV.o)
      (fail)
     have c6b:=mV.o.1;clear hup c6 y0 y1 ZT mZ mV;have Jw:=aje;have HVN:Hid (X6.N=V.now/\X6.S=V.bD/\X6.D=V.gone):=az ⟨congrArg FP.Ft.now UC.o,congrArg FP.Ft.bD UC.o,congrArg FP.Ft.gone UC.o⟩;have Dt:Hid (Low (MP.put V.now 0 ⟨qb,qp⟩)):=az (Jw.o.oG.put (k:=0) ag _);have zQ:Hid (∀done:Mp FP.cB,(∀x∈done,x∈MP.put V.now 0 ⟨qb,qp⟩)->rH V.c V.g.aC V.g.bad (done.foldl FP.Sl.take ⟨V.g,V.bD,V.gone⟩)) :=
      az (λdone hd=>rH.takes (λx hx=>Dt.o.2 x (hd x hx)) ⟨Jw.o.lL,⟨rfl,rfl⟩,Jw.o.slow,Jw.o.kQ⟩)
     have HV8:Hid ({X6 with N:=MP.put X6.N 0 ⟨qb,qp⟩:dm}.view={V with now:=MP.put V.now 0 ⟨qb,qp⟩}):=az (by rw[<-UC.o]);have HNQ:Hid ({X6 with N:=MP.put X6.N 0 ⟨qb,qp⟩:dm}.N=MP.put V.now 0 ⟨qb,qp⟩):=az (by show MP.put X6.N 0 _=_;rw[HVN.o.1]);have ab3:Hid (({X6 with N:=MP.put X6.N 0 ⟨qb,qp⟩}:dm).bn=X6.bn):=az rfl;generalize hX8:({X6 with N:=MP.put X6.N 0 ⟨qb,qp⟩}:dm)=X8 at*;generalize hN8:MP.put V.now 0 ⟨qb,qp⟩=N8 at*;have HTS:Hid (rJ V ⟨qb,qp⟩=N8.foldl FP.Sl.take ⟨V.g,V.bD,V.gone⟩):=az (by rw[<-hN8];rfl);clear hX8 hN8 Dp UC HVN;obtain⟨w9,DJ,hit⟩:=zO.begin (b:=X6.bn) C8.o (.inl ab3.o.symm) hbase (by rw[<-ab3.o];exact C8.o.at_.now)
     have Da:=az DJ;have HIT:=az hit;rw[HNQ.o]at HIT;clear DJ hit;generalize w8.heap.size=rr at*;go_wp2_with (at_range;refine iq rfl (.tmp 55) rfl rfl Da.o.run ?_);go_frame;clear Da c6b;generalize X6.bn=bn at*;go_loopg [8] N8.length (λk _ wr=>∃done left Y,left.length<=k/\Hid (zO aA w' f X rr bn left wr Y/\Y.bn=bn/\Y.view={V with now:=N8,g:=(done.foldl FP.Sl.take ⟨V.g,V.bD,V.gone⟩).g,bD:=(done.foldl FP.Sl.take ⟨V.g,V.bD,V.gone⟩).bD,gone:=(done.foldl FP.Sl.take ⟨V.g,V.bD,V.gone⟩).gone}/\(done++left).Perm N8))
     case atStart=>exact⟨[],N8,X8,aj,az ⟨HIT.o,ab3.o,HV8.o,List.Perm.refl _⟩⟩
     case round =>
      obtain⟨done,left,Y,hlk,hrd⟩:=hrel;have HIY:=az hrd.o.1;have HYB:=az hrd.o.2.1;have Vk:=az hrd.o.2.2.1;have Lj:=az hrd.o.2.2.2;clear hrd HIT C8;rcases HIY.o.next with⟨hnil,hnx⟩|⟨k,pb,pp,wn,hmem,hnx,hit2,hlt2,Ju,hen⟩
      ·have iH:=az hnx;have XP:=az hnil;clear hnx hnil;have fV:Hid (done.foldl FP.Sl.take ⟨V.g,V.bD,V.gone⟩=rJ V ⟨qb,qp⟩):=az (by
        have hp:=Lj.o
        rw[XP.o,List.append_nil]at hp
        rw[Kz Dt.o.1 hp Jw.o.slow.1 Jw.o.kQ.1,HTS.o])
       rw[fV.o]at Vk;have HK1:Hid (rH V.c V.g.aC V.g.bad (rJ V ⟨qb,qp⟩)):=az (by rw[HTS.o];exact zQ.o N8 (λ_ h=>h));clear fV Lj XP HTS zQ hlk;have HSF:Hid (IG V ⟨qb,qp⟩ b={V with g:=(sQ (rJ V ⟨qb,qp⟩)).g,bD:=(sQ (rJ V ⟨qb,qp⟩)).bD,now:=[],gone:=[],aM:=V.aM+1,text:=b}):=az rfl;have HST:Hid (sQ (rJ V ⟨qb,qp⟩)=(rJ V ⟨qb,qp⟩).gone.foldl FP.Sl.strike (rJ V ⟨qb,qp⟩)):=az rfl;generalize rJ V ⟨qb,qp⟩=s1 at*;generalize sQ s1=s2 at*;have HFN:Hid (Fit {V with now:=N8}):=az (Jw.o.now Dt.o);have HYD:Hid (Y.D=s1.gone):=az (congrArg FP.Ft.gone Vk.o)
       obtain⟨w2,DJ,hit⟩:=zO.begin (b:=Y.bg) HIY.o.goes (.inr rfl) hbase HIY.o.goes.at_.gone;have Da:=az DJ;have HIT:=az hit;rw[HYD.o]at HIT;have c7:wr.cell? ⟨f,7,none⟩=some (.map (some Y.bg)):=HIY.o.goes.at_.obj.cell 7;clear DJ hit HYD HIY;generalize wr.heap.size=r2 at*;go_wp2_with (first|(at_next;refine dK rfl (.tmp 56) rfl rfl (iH.o.run _) ?_)|(at_range;refine iq rfl (.tmp 93) rfl rfl Da.o.run ?_));go_frame;clear c7 Da iH;generalize hyg:Y.bg=bg at*;have HYG:=az hyg;clear hyg;go_loopg [12] s1.gone.length (λk _ wr=>∃done left Z,left.length<=k/\Hid (zO aA w' f X r2 bg left wr Z/\Z.bg=bg/\Z.view={V with now:=N8,g:=(done.foldl FP.Sl.strike s1).g,bD:=(done.foldl FP.Sl.strike s1).bD,gone:=(done.foldl FP.Sl.strike s1).gone}/\(done++left).Perm s1.gone))
       case atStart=>exact⟨[],s1.gone,Y,aj,az ⟨HIT.o,HYG.o,Vk.o,List.Perm.refl _⟩⟩
       case round =>
        obtain⟨Jy,ZU,Z,hlk2,hrd⟩:=hrel;have Yp:=az hrd.o.1;have Yq:=az hrd.o.2.1;have Vl:=az hrd.o.2.2.1;have HPZ:=az hrd.o.2.2.2;clear hrd HIT Vk HYB;rcases Yp.o.next with⟨hnil,hnx⟩|⟨k,pb,pp,wn,hmem,hnx,hit2,hlt2,Ju,hen⟩
        ·have iH:=az hnx;have XP:=az hnil;clear hnx hnil;have HS2:Hid (Jy.foldl FP.Sl.strike s1=s2):=az (by
          have hp:=HPZ.o
          rw[XP.o,List.append_nil]at hp
          rw[Fz HK1.o.kQ.1 hp HK1.o.slow.1,HST.o])
         rw[HS2.o]at Vl;clear HS2 HPZ XP hlk2;have IB:=az Yp.o.goes;clear Yp;have hmm:=@run_makeMap prog;go_upto_region 25 with (at_next;refine dK rfl (.tmp 94) rfl rfl (iH.o.run _) ?_);have HB2:Hid (acN wr.heap.size wr ((wr.alloc (.map #[] 0)).alloc (.map #[] 0))):=az (ax.alloc ai _);have HGA:=az (IB.o.old HB2.o);have c6:((wr.alloc (.map #[] 0)).alloc (.map #[] 0)).cell? ⟨f,6,none⟩=some (.map (some Z.bn)):=HGA.o.at_.obj.cell 6;have c7:((wr.alloc (.map #[] 0)).alloc (.map #[] 0)).cell? ⟨f,7,none⟩=some (.map (some Z.bg)):=HGA.o.at_.obj.cell 7
         have z6:((wr.alloc (.map #[] 0)).alloc (.map #[] 0)).frozen? ⟨f,6,none⟩=false:=HGA.o.at_.obj.frozen 6;have z7:((wr.alloc (.map #[] 0)).alloc (.map #[] 0)).frozen? ⟨f,7,none⟩=false:=HGA.o.at_.obj.frozen 7;go_upto_region 26 with fail;have wU:Hid (aA<=wr.heap.size):=az (abX hbase IB.o.size);have Ik:=az (IB.o.fresh wU.o);have HBV:Hid (({Z with bn:=wr.heap.size,N:=[],bg:=wr.heap.size+1,D:=[]}:dm).view={V with g:=s2.g,bD:=s2.bD,now:=[],gone:=[]}):=az (by
          show ({Z.view with now:=[],gone:=[]}:FP.Ft)=_
          rw[Vl.o])
         clear HGA HB2 c6 c7 z6 z7 wU Vl IB Yq iH hmm;generalize ((((wr.alloc (.map #[] 0)).alloc (.map #[] 0)).setCell ⟨f,6,none⟩ (.map (some wr.heap.size))).setCell ⟨f,7,none⟩ (.map (some (wr.heap.size+1))))=wk at*;generalize ({Z with bn:=wr.heap.size,N:=[],bg:=wr.heap.size+1,D:=[]}:dm)=Zb at*;have HBE:Hid (Zb.aM=V.aM):=az (congrArg FP.Ft.aM HBV.o);have c9:wk.cell? ⟨f,9,none⟩=some (vq Zb.aM):=Ik.o.at_.obj.cell 9;have f9:=Ik.o.at_.obj.frozen 9;have HF9:=az (Ik.o.at_.field (X':={Zb with aM:=Zb.aM+1}) 9 (vq (Zb.aM+1)) rfl ⟨rfl,rfl,rfl⟩ ⟨Ik.o.at_.text,Ik.o.at_.lC⟩ ⟨rfl,rfl⟩ ⟨rfl,rfl⟩ ⟨rfl,rfl⟩ ⟨rfl,rfl,rfl⟩ (abX hbase Ik.o.size))
         have abW:((Zb.aM:Int)+1)%18446744073709551616=(Zb.aM:Int)+1:=by have:=HBE.o;have:=HEP.o;omega
         go_upto_region 27 with fail;change Code.wp _ _ _ _ (wk.setCell ⟨f,9,none⟩ (vq (Zb.aM+1)));have Ej:=az (Ik.o.trans HF9.o);have H9V:Hid (({Zb with aM:=Zb.aM+1}:dm).view={V with g:=s2.g,bD:=s2.bD,now:=[],gone:=[],aM:=V.aM+1}):=az (by
          show ({Zb.view with aM:=Zb.aM+1}:FP.Ft)=_
          rw[HBV.o,HBE.o])
         clear c9 f9 abW HF9 Ik HBV HBE;generalize wk.setCell ⟨f,9,none⟩ (vq (Zb.aM+1))=wl at*;generalize ({Zb with aM:=Zb.aM+1}:dm)=Zc at*;have HRL:=az (HR.o.fD Ej.o.aJ (λn e=>H.o.loose n e));go_wp2_with fail;refine(jr a b c _ HRL.o.row aa).mono ?_;rintro e w5 ⟨v5,rfl,jT,hb5⟩;obtain⟨a5,k5,rfl,hs5,hl5,JR,_⟩:=jT.Db (aA:=aA) HR.o.row.small;have Bl:=az (Ej.o.old hb5);have mY:=az hs5;have c4:w5.cell? ⟨f,4,none⟩=some (.slice Zc.ta Zc.tx.length Zc.tc):=Bl.o.at_.obj.cell 4;have f4:=Bl.o.at_.obj.frozen 4;have OV:=az (Bl.o.trans (Bl.o.at_.field (X':={Zc with ta:=a5,tx:=b,tc:=k5}) 4 (.slice a5 b.length k5) rfl ⟨rfl,rfl,rfl⟩ ⟨mY.o,hl5,JR⟩ ⟨rfl,rfl⟩ ⟨rfl,rfl⟩ ⟨rfl,rfl⟩ ⟨rfl,rfl,rfl⟩ (abX hbase Bl.o.size)))
         have ajg:Hid (({Zc with ta:=a5,tx:=b,tc:=k5}:dm).view=IG V ⟨qb,qp⟩ b):=az (by
          rw[HSF.o]
          show ({Zc.view with text:=b}:FP.Ft)=_
          rw[H9V.o])
         clear hb5 jT hs5 Ej H9V;go_wp2;go_ret;exact dY.mk (by have:=ZR.o;cases this;rfl) OV.o ajg.o
        have iH:=az hnx;have HI2:=az hit2;have ab6:=az Ju;clear hnx Ju hmem Yp;go_upto_region 23 with (at_next;refine dK rfl (.tmp 94) rfl rfl (iH.o.run _) ?_);generalize hsd:Jy.foldl FP.Sl.strike s1=sd at*;have Xx:=az hsd;have HZS:Hid (Z.S=sd.bD/\Z.G.view=sd.g):=az ⟨congrArg FP.Ft.bD Vl.o,congrArg FP.Ft.g Vl.o⟩;have HZF:Hid Z.Fit:=az (dm.fit_of Vl.o (Fit.sl HFN.o (by rw[<-hsd];exact HK1.o.strikes Jy)));have HI3:=az (HI2.o.old au);obtain⟨ob,op,L,Dx⟩:∃ob op:Int,(Instr.lookup 149 (.map (some Z.bs)) (.int .u32 k) false).run prog wn.drew=.ok (.agg #[vi ob,vi op]) wn.drew/\(MP.get Z.S k).getD default=⟨ob,op⟩:=by
         have h:=HI3.o.goes.at_.bD.lookup underlying149 underlying118 (vR _) k;cases hg:MP.get Z.S k with
         |none=>rw[hg]at h;exact⟨0,0,h,rfl⟩
         |some p=>rw[hg]at h;exact⟨p.block,p.aB,h,rfl⟩
        have ZC:=az Dx;clear hsd Dx iH hit2 hen;have hf0:=aaJ ob op;have c1:wn.cell? ⟨f,1,none⟩=some (ptr Z.m):=HI2.o.goes.at_.obj.cell 1;have c5:wn.cell? ⟨f,5,none⟩=some (.map (some Z.bs)):=HI2.o.goes.at_.obj.cell 5;have HS:Hid (wn.drew.cell? ⟨f,1,none⟩=some (ptr Z.m)/\wn.drew.cell? ⟨f,5,none⟩=some (.map (some Z.bs))):=az ⟨c1,c5⟩;have OB:=az (Bh HI3.o.goes.at_ HZF.o ob);have nS:Hid (∀W,bJ aA wn.drew Z.m Z.G Z.M W (Z.G.view.drop ob).2 Z.M->(W.cell? ⟨f,1,none⟩=some (ptr Z.m)/\W.cell? ⟨f,5,none⟩=some (.map (some Z.bs)))) :=
         az (λW q=>⟨(HI3.o.drop q).goes.at_.obj.cell 1,(HI3.o.drop q).goes.at_.obj.cell 5⟩)
        go_region_held3 (λw'=>w'.cell? ⟨f,1,none⟩=some (ptr Z.m)/\w'.cell? ⟨f,5,none⟩=some (.map (some Z.bs)))
         (first|exact HS.o|exact nS.o _ (by assumption))
         (first|(go_at_call 109;refine OB.o.mono ?_;rintro e w3 ⟨rfl,hg3⟩))
        have Wq:=az (HI3.o.drop hg3);clear hg3 HS OB nS c1 c5 L hf0 HI2 HI3 HZF;obtain⟨w4,hdel,SV,IA⟩:=xH Wq.o.goes.at_.bD k;have vQ:=az hdel;have HI6:=az (Wq.o.bD IA SV);have c5:w3.cell? ⟨f,5,none⟩=some (.map (some Z.bs)):=Wq.o.goes.at_.obj.cell 5;clear hdel SV IA;go_wp2_with (at_delete;refine eu rfl (.tmp 114) (.tmp 115) rfl rfl rfl (vQ.o.run _) ?_);go_roundg (MP.del ZU k).length
        case measure=>omega
        case rel=>exact⟨Jy++[(k,⟨pb,pp⟩)],MP.del ZU k,_,aj,az ⟨HI6.o,Yq.o,by
         rw[List.foldl_append,Xx.o]
         show _=({V with now:=N8,g:=(sd.g.drop ((MP.get sd.bD k).getD default).block).2,bD:=MP.del sd.bD k,gone:=sd.gone}:FP.Ft)
         rw[<-HZS.o.1,ZC.o,<-HZS.o.2]
         show ({Z.view with g:=(Z.G.view.drop ob).2,bD:=MP.del Z.S k}:FP.Ft)=_
         rw[Vl.o],by
         rw[List.append_assoc]
         exact(ab6.o.symm.append_left Jy).trans HPZ.o⟩⟩
      have iH:=az hnx;have HI2:=az hit2;have ab6:=az Ju;clear hnx hit2 Ju hmem HIY;go_upto_region 15 with (at_next;refine dK rfl (.tmp 56) rfl rfl (iH.o.run _) ?_);have FB9:Hid (aD (wn.alloc (.cells #[vi pb,vi pp] 165)) wn.heap.size 165 #[vi pb,vi pp]):=az (aD.new _ _ _);have HI3:=az (HI2.o.old (ak.alloc aj (.cells #[vi pb,vi pp] 165)));have ZM:Hid (¬Y.foot f wn.heap.size):=az (λe=>by have:=HI2.o.goes.at_.lt _ e;omega);clear HI2 hen iH;generalize wn.alloc (.cells #[vi pb,vi pp] 165)=wa at*;generalize wn.heap.size=g9 at*
      have c5:wa.cell? ⟨f,5,none⟩=some (.map (some Y.bs)):=HI3.o.goes.at_.obj.cell 5;obtain⟨ob,op,ok,L,hsome,hnone⟩:=vV HI3.o.goes.at_.bD k;have SQ:=az hsome;have QS:=az hnone;clear hsome hnone;generalize hs:done.foldl FP.Sl.take ⟨V.g,V.bD,V.gone⟩=st at*;have HYS:Hid (Y.S=st.bD/\Y.D=st.gone):=az ⟨congrArg FP.Ft.bD Vk.o,congrArg FP.Ft.gone Vk.o⟩;have HST:=az hs;clear hs;have HSK:Hid (rH V.c V.g.aC V.g.bad st):=az (by rw[<-HST.o];exact zQ.o done (λx hx=>Lj.o.subset (List.mem_append_left _ hx)));have HYF:Hid Y.Fit:=az (dm.fit_of Vk.o (Fit.sl (Jw.o.now Dt.o) HSK.o))
      go_upto_region 16 with fail;have FBA:Hid (aD (wa.alloc (.cells #[vi ob,vi op] 165)) wa.heap.size 165 #[vi ob,vi op]):=az (aD.new _ _ _);have ab7:Hid (aD (wa.alloc (.cells #[vi ob,vi op] 165)) g9 165 #[vi pb,vi pp]):=az (FB9.o.alloc _);have HI4:=az (HI3.o.old (ak.alloc aj (.cells #[vi ob,vi op] 165)));have wD:Hid (¬Y.foot f wa.heap.size):=az (λe=>by have:=HI3.o.goes.at_.lt _ e;omega);clear HI3 FB9 c5 L;generalize wa.alloc (.cells #[vi ob,vi op] 165)=wb at*;generalize wa.heap.size=ga at*;obtain⟨g1,hg1⟩:∃g1:Mg,(st.take (k,(⟨pb,pp⟩:FP.cB)))=⟨g1,MP.put st.bD k ⟨pb,pp⟩,MP.del st.gone k⟩/\g1=(match MP.get st.bD k with|some old=>(st.g.drop old.block).2|none=>st.g):=⟨_,rfl,rfl⟩
      have Yr:=az hg1.1;have qI:=az hg1.2;clear hg1;have HYG:Hid (Y.G.view=st.g):=az (congrArg FP.Ft.g Vk.o);go_upto_if 71 with fail;go_cut [72] from 57 to 89 (λ_ wx=>Hid (aD wx g9 165 #[vi pb,vi pp])/\∃Z,Hid (zO aA w' f X rr bn (MP.del left k) wx Z/\Z.bn=bn/\Z.view={V with now:=N8,g:=g1,bD:=st.bD,gone:=st.gone}))
      case first =>
       cases ok
       ·have HG2:Hid (g1=st.g):=az (by rw[qI.o,<-HYS.o.1,QS.o rfl]);go_wp2;go_meet;exact⟨ab7,Y,az ⟨HI4.o,HYB.o,by rw[HG2.o];exact Vk.o⟩⟩
       have HG2:Hid (g1=(Y.G.view.drop ob).2):=az (by rw[qI.o,<-HYS.o.1,SQ.o rfl,HYG.o]);go_upto_region 17 with fail;have c1:wb.cell? ⟨f,1,none⟩=some (ptr Y.m):=HI4.o.goes.at_.obj.cell 1;obtain⟨d0,d1,_,_⟩:=bO FBA.o;have HS:Hid (wb.drew.cell? ⟨f,1,none⟩=some (ptr Y.m)/\wb.drew.cell? ⟨ga,0,none⟩=some (vi ob)):=az ⟨c1,d0⟩;have ab8:=az (HI4.o.old au);have OB:=az (Bh ab8.o.goes.at_ HYF.o ob);have nS:Hid (∀W,bJ aA wb.drew Y.m Y.G Y.M W (Y.G.view.drop ob).2 Y.M->(W.cell? ⟨f,1,none⟩=some (ptr Y.m)/\W.cell? ⟨ga,0,none⟩=some (vi ob))) :=
        az (λW q=>⟨(ab8.o.drop q).goes.at_.obj.cell 1,bJ.cells q HS.o.2 (λe=>wD.o (.inr (.inr (.inr (.inr (.inr e))))))⟩)
       go_region_held3 (λw'=>w'.cell? ⟨f,1,none⟩=some (ptr Y.m)/\w'.cell? ⟨ga,0,none⟩=some (vi ob))
        (first|exact HS.o|exact nS.o _ (by assumption))
        (first|(go_at_call 109;refine OB.o.mono ?_;rintro e w3 ⟨rfl,hg3⟩))
       have Wq:=az (ab8.o.drop hg3);have FB5:Hid (aD w3 g9 165 #[vi pb,vi pp]):=az ((ab7.o.old au).aJ hg3.aJ (λe=>ZM.o (.inr (.inr (.inr (.inr (.inr e)))))));go_wp2;go_meet;exact⟨FB5,{Y with G:=Y.G.lay (Y.G.view.drop ob).2},az ⟨Wq.o,HYB.o,by
        rw[HG2.o]
        show ({Y.view with g:=(Y.G.view.drop ob).2}:FP.Ft)=_
        rw[Vk.o]⟩⟩
      case rest =>
      obtain⟨FBX,Z,hcut⟩:=hcut;have Yp:=az hcut.o.1;have Yq:=az hcut.o.2.1;have Vl:=az hcut.o.2.2;have HZS:Hid (Z.S=st.bD/\Z.D=st.gone):=az ⟨congrArg FP.Ft.bD Vl.o,congrArg FP.Ft.gone Vl.o⟩;clear hcut ab7 FBA HI4 wD ZM SQ QS Vk HYS HYF HYB qI HYG;go_upto_region 18 with fail;obtain⟨y0,y1,_,_⟩:=bO FBX.o;have c5:wc.cell? ⟨f,5,none⟩=some (.map (some Z.bs)):=Yp.o.goes.at_.obj.cell 5;have ab9:=az (Yp.o.old au);obtain⟨w5,rG,hm,hgr⟩:=rE ab9.o.goes.at_.bD k pb pp;have Wq:=az (ab9.o.bD hgr hm);have hup:(Instr.mapUpdate 149 (.map (some Z.bs)) (.int .u32 k) (.agg #[vi pb,vi pp])).run prog wc.drew=.ok () w5:=rG.run
      have aca:Z.bs≠g9:=Yp.o.goes.at_.bD.dM FBX.o;have mV:Hid (w5.cell? ⟨f,5,none⟩=some (.map (some Z.bs))/\w5.cell? ⟨g9,0,none⟩=some (vi pb)/\w5.cell? ⟨g9,1,none⟩=some (vi pp)):=az ⟨Wq.o.goes.at_.obj.cell 5,
       (FBX.o.drew.grown hgr (λe=>by injection e with e;exact aca e.symm)).cell 0,(FBX.o.drew.grown hgr (λe=>by injection e with e;exact aca e.symm)).cell 1⟩
      have mZ:Hid (wc.drew.cell? ⟨f,5,none⟩=some (.map (some Z.bs))/\wc.drew.cell? ⟨g9,0,none⟩=some (vi pb)/\wc.drew.cell? ⟨g9,1,none⟩=some (vi pp)):=az ⟨c5,y0,y1⟩;clear rG hm hgr aca;go_region_held3 (λW=>W.cell? ⟨f,5,none⟩=some (.map (some Z.bs))/\W.cell? ⟨g9,0,none⟩=some (vi pb)/\W.cell? ⟨g9,1,none⟩=some (vi pp))
       (first|exact mZ.o|exact mV.o)
       (fail)
      clear hup c5 y0 y1 FBX mZ mV ab9 Yp;obtain⟨w6,hdel,hm6,ae6⟩:=xH Wq.o.goes.at_.gone k;have vQ:=az hdel;have HI6:=az (Wq.o.gone Yq.o.symm ae6 hm6);have c7:w5.cell? ⟨f,7,none⟩=some (.map (some Z.bg)):=Wq.o.goes.at_.obj.cell 7;clear hdel hm6 ae6;go_wp2_with (at_delete;refine eu rfl (.tmp 88) (.tmp 89) rfl rfl rfl (vQ.o.run _) ?_);go_roundg (MP.del left k).length
      case measure=>omega
      case rel=>exact⟨done++[(k,⟨pb,pp⟩)],MP.del left k,_,aj,az ⟨HI6.o,Yq.o,by
       rw[List.foldl_append,HST.o]
       show _=({V with now:=N8,g:=(st.take (k,⟨pb,pp⟩)).g,bD:=(st.take (k,⟨pb,pp⟩)).bD,gone:=(st.take (k,⟨pb,pp⟩)).gone}:FP.Ft)
       rw[Yr.o]
       show ({Z.view with bD:=MP.put Z.S k ⟨pb,pp⟩,gone:=MP.del Z.D k}:FP.Ft)=_
       rw[Vl.o,HZS.o.1,HZS.o.2],by
       rw[List.append_assoc]
       exact(ab6.o.symm.append_left done).trans Lj.o⟩⟩
   have HQ:Hid _:=az ((if_pos rfl).symm.trans HQ.o);have HG:=az (aQ.aX H.o pI.o);go_wp2;go_ret;exact dY.mk (by have:=HQ.o;cases this;rfl) HG.o rfl
  have HQ:Hid _:=az ((if_pos hS).symm.trans HQ.o);have hS':((b.length:Int) != (X.M.S:Int)-8)=true:=by simp;omega
  have HG:=az (aQ.aX H.o HB3.o);clear hS;go_wp2;go_ret;exact dY.mk (by have:=HQ.o;cases this;rfl) HG.o rfl
 have HQ:Hid _:=az ((if_pos h0).symm.trans HQ.o);have HG:=az (aQ.refl H.o);go_wp2;go_ret;exact dY.mk (by have:=HQ.o;cases this;rfl) HG.o rfl
end ft
namespace us
open RowKit mgr ft
def UR (w:acL)(g n:Nat)(G:Nat->Nat):Prop:=∃cs,aD w g 118 cs/\∀t,t<n->cs[t]?=some (vw (G t))
def swp (G:Nat->Nat)(i j:Nat):Nat->Nat:=λt=>if t=j then G i else if t=i then G j else G t
inductive Sw (n:Nat)(G:Nat->Nat):(Nat->Nat)->Prop
 |refl:Sw n G G
 |step {G':Nat->Nat} {i j:Nat}:Sw n G G'->i<n->j<n->Sw n G (swp G' i j)
variable{n:Nat}{G:Nat->Nat}
def Sw.trans {G' G'':Nat->Nat}(h:Sw n G G')(k:Sw n G' G''):Sw n G G'':=by
 induction k with
 |refl=>exact h
 |step _ hi hj ih=>exact ih.step hi hj
structure US (w:acL)(g n:Nat)(G:Nat->Nat)(w':acL)(G':Nat->Nat):Prop where
 row:UR w' g n G'
 sw:Sw n G G'
 aJ:aP (λm=>m=g) w w'
 siz:∀cs cs',aD w g 118 cs->aD w' g 118 cs'->cs'.size=cs.size
variable{w:acL}{g:Nat}
def zV {t:TypeId}{cs cs':Array Value}(h:aD w g t cs)(h':aD w g t cs'):cs'=cs:=by
 unfold aD at h h';rw[h]at h';injection h' with h';injection h' with h';exact h'.symm
def UP (w:acL)(g n:Nat)(G:Nat->Nat)(e:Ending)(w':acL):Prop:=e=ab4 (.tuple #[])/\∃G',US w g n G w' G'
variable{w w' w'':acL}{g n:Nat}{G G' G'':Nat->Nat}
def UR.cell (h:UR w g n G){t:Nat}(ht:t<n):w.cell? ⟨g,t,none⟩=some (vw (G t)):=by
 obtain⟨cs,h1,h2⟩:=h;rw[h1.cell];exact h2 t ht
def UR.frozen (h:UR w g n G)(t:Nat):w.frozen? ⟨g,t,none⟩=false:=by
 obtain⟨cs,h1,h2⟩:=h;exact h1.frozen t
def UR.lt (h:UR w g n G):g<w.heap.size:=by
 obtain⟨cs,h1,h2⟩:=h;exact h1.lt
def UR.old (h:UR w g n G)(k:acN w.heap.size w w'):UR w' g n G:=by
 obtain⟨cs,h1,h2⟩:=h;exact⟨cs,h1.old k,h2⟩
def UR.swap (h:UR w g n G){i j:Nat}(hi:i<n)(hj:j<n):UR ((w.setCell ⟨g,i,none⟩ (vw (G j))).setCell ⟨g,j,none⟩ (vw (G i))) g n (swp G i j):=by
 obtain⟨cs,h1,h2⟩:=h;refine⟨_,(h1.bB i _).bB j _,λt ht=>?_⟩;have hs:∀t,t<n->t<cs.size:=λt ht=>by
  rcases Nat.lt_or_ge t cs.size with h|h;exact h;have:=h2 t ht;rw[Array.getElem?_eq_none h]at this;cases this
 unfold swp;rw[af3,af3];by_cases e:j=t;rw[if_pos e,if_pos e.symm,if_pos (by simp;exact hs j hj)];rw[if_neg e,if_neg (λh:t=j=>e h.symm)];by_cases e2:i=t;rw[if_pos e2,if_pos e2.symm,if_pos (hs i hi)];rw[if_neg e2,if_neg (λh:t=i=>e2 h.symm)];exact h2 t ht
def UR.Jz (h:UR w g n G)(i x:Nat){t:Nat}(ht:t<n):∃s:Nat,(w.setCell ⟨g,i,none⟩ (vw x)).cell? ⟨g,t,none⟩=some (vw s):=by
 obtain⟨cs,h1,h2⟩:=h;have hs:t<cs.size:=by
  rcases Nat.lt_or_ge t cs.size with h|h;exact h;have:=h2 t ht;rw[Array.getElem?_eq_none h]at this;cases this
 rw[(h1.bB i _).cell,af3];by_cases e:i=t;rw[if_pos e,if_pos (by rw[e];exact hs)];exact⟨x,rfl⟩;rw[if_neg e];exact⟨G t,h2 t ht⟩
def UR.kn (h:UR w g n G)(t:Nat)(ht:t<n):∃v,w.cell? ⟨g,t,none⟩=some (vw v)/\Hid (G t=v):=⟨_,h.cell ht,az rfl⟩
def UR.two (h:UR w g n G)(i j:Nat)(hi:i<n)(hj:j<n):∃u v s,w.cell? ⟨g,i,none⟩=some (vw u)/\Hid (G i=u)/\w.cell? ⟨g,j,none⟩=some (vw v)/\Hid (G j=v) /\
  (w.setCell ⟨g,i,none⟩ (vw v)).cell? ⟨g,j,none⟩=some (vw s)/\w.frozen? ⟨g,i,none⟩=false/\w.frozen? ⟨g,j,none⟩=false:=by
 obtain⟨s,hs⟩:=h.Jz i (G j) hj;exact⟨_,_,s,h.cell hi,az rfl,h.cell hj,az rfl,hs,h.frozen i,h.frozen j⟩
def US.refl (h:UR w g n G):US w g n G w G:=⟨h,.refl,aP.refl _ _,λcs cs' a b=>by rw[zV a b]⟩
def US.trans (h:US w g n G w' G')(k:US w' g n G' w'' G''):US w g n G w'' G'':=by
 obtain⟨cs1,h1,_⟩:=h.row;exact⟨k.row,h.sw.trans k.sw,h.aJ.trans k.aJ (λ_ _ e=>e),λcs cs' a b=>(k.siz _ _ h1 b).trans (h.siz _ _ a h1)⟩
def US.old (h:US w g n G w' G')(k:acN w'.heap.size w' w''):US w g n G w'' G':=by
 obtain⟨cs1,h1,_⟩:=h.row;exact⟨h.row.old k,h.sw,h.aJ.below k,λcs cs' a b=>by rw[zV (h1.old k) b];exact h.siz _ _ a h1⟩
def US.far {F:Nat->Prop}(h:US w g n G w' G')(hg:g<w.heap.size)(q:aP F w' w'')(hF:∀k,F k->w.heap.size<=k):US w g n G w'' G':=by
 obtain⟨cs1,h1,h2⟩:=h.row;have h3:=h1.aJ q (λe=>by have:=hF _ e;omega);exact⟨⟨cs1,h3,h2⟩,h.sw,⟨q.os.trans h.aJ.os,q.tape.trans h.aJ.tape,q.output.trans h.aJ.output,abX h.aJ.size q.size,λk hk hn=>(q.block k (Nat.lt_of_lt_of_le hk h.aJ.size) (λe=>by have:=hF _ e;omega)).trans (h.aJ.block k hk hn)⟩,
  λcs cs' a b=>by rw[zV h3 b];exact h.siz _ _ a h1⟩
def US.drewN (h:US w g n G w' G')(k:Nat):US w g n G (w'.drewN k) G':=h.old ⟨rfl,rfl,rfl,aj,λ_ _=>rfl⟩
def US.swap (h:US w g n G w' G'){i j:Nat}(hi:i<n)(hj:j<n):US w g n G ((w'.setCell ⟨g,i,none⟩ (vw (G' j))).setCell ⟨g,j,none⟩ (vw (G' i))) (swp G' i j) :=
 ⟨h.row.swap hi hj,h.sw.step hi hj,h.aJ.trans (lY _ _ _ _ _ _) (λ_ _ e=>e),λcs cs' a b=>by
  obtain⟨cs1,h1,_⟩:=h.row
  rw[zV ((h1.bB i (vw (G' j))).bB j (vw (G' i))) b]
  simp[h.siz _ _ a h1]⟩
def Qd (x:Nat)(w:acL):ac4 prog 214 #[vw x] w λe w'=>e=ab4 (.bool false)/\w'=w:=by
 go_in;go_wp2;go_ret;exact⟨ai,rfl⟩
def fw (x y:Nat)(w:acL):ac4 prog 190 #[vw x,vw y] w λe w'=>e=ab4 (.bool (decide (x<y)))/\w'=w:=by
 go_in;go_wp2_with (go_at_call 214;refine(Qd _ _).mono ?_;rintro e w' ⟨rfl,rfl⟩);go_ret;exact⟨ai,rfl⟩
def Yt (h:UR w g n G)(c a b:Nat)(hab:a<=b)(hb:b<=n)(hn:n<1000000) :
  ac4 prog 184 #[.slice (some ⟨g,0,none⟩) n c,vi a,vi b] w (UP w g n G):=by
 have H:=az (US.refl h);clear h;go_in;go_wp2_with fail;go_loopg [6] (b+1-(a+1)) (λk v6 wr=>∃(i:Nat) (Gk:Nat->Nat),v6=vi i/\a<i/\i<=b+1/\b+1-i<=k/\Hid (US w g n G wr Gk))
 case atStart=>exact⟨a+1,G,by go_num,aa,aa,aa,H⟩
 case round =>
  obtain⟨i,Gk,rfl,hai,hib,hk,HK⟩:=hrel;by_cases hlt:i<b
  ·go_wp2_with fail;go_loopg [7] i (λk v7 wr=>∃(j:Nat) (Gj:Nat->Nat),v7=vi j/\a<=j/\j<=i/\j<=k/\Hid (US w g n G wr Gj))
   case atStart=>exact⟨i,Gk,rfl,aa,aj,aj,HK⟩
   case round =>
    obtain⟨j,Gj,rfl,haj,hji,hjk,HJ⟩:=hrel;by_cases hja:a<j
    ·have q1:adk.wrap ((j:Int)-1)=(j:Int)-1:=adl _ aa;have q2:(0:Int)<=(j:Int)-1:=aa;have q3:(j:Int)-1<(n:Int):=aa;have q4:((j:Int)-1).toNat=j-1:=aa;have q5:(j:Int)<(n:Int):=aa;have c1:wr.cell? ⟨g,j,none⟩=some (vw (Gj j)):=HJ.o.row.cell aa;have c2:wr.cell? ⟨g,j-1,none⟩=some (vw (Gj (j-1))):=HJ.o.row.cell aa;generalize hx:Gj j=x at*;generalize hy:Gj (j-1)=y at*;have HX:=az hx;have HY:=az hy;clear hx hy;go_wp2_with fail;go_quiet (first|(go_at_call 190;refine af1 (fw _ _ _)));by_cases hl:x<y
     ·go_wp2_with fail;have f1:=HJ.o.row.frozen j;have f2:=HJ.o.row.frozen (j-1);go_region;all_goals
       go_wp2_with fail;go_roundg (j-1)
       case measure=>omega
       case rel=>exact⟨j-1,swp Gj j (j-1),by first|rfl|(congr 1;omega),aa,aa,aj,az (by rw[<-HX.o,<-HY.o];exact(HJ.o.drewN _).swap aa aa)⟩
     go_wp2_with fail;go_roundg (b+1-(i+1))
     case measure=>omega
     case rel=>exact⟨i+1,Gj,by first|rfl|(congr 1;omega),aa,aa,aj,az (HJ.o.drewN _)⟩
    have hd:decide ((a:Int)<(j:Int))=false:=decide_eq_false aa;go_wp2_with fail;go_quiet (fail);go_wp2_with fail;go_roundg (b+1-(i+1))
    case measure=>omega
    case rel=>exact⟨i+1,Gj,by first|rfl|(congr 1;omega),aa,aa,aj,az (HJ.o.drewN _)⟩
  go_wp2_with fail;go_end0;exact⟨rfl,Gk,HK.o⟩
def Yu (h:UR w g n G)(c a b:Nat)(hab:a<b)(hb:b<=n)(hn:n<1000000) :
  ac4 prog 188 #[.slice (some ⟨g,0,none⟩) n c,vi a,vi b] w (UP w g n G):=by
 have H:=az (US.refl h);clear h;go_in;obtain⟨jb,hjb⟩:∃jb:Nat,(b:Int)-1=jb:=⟨b-1,aa⟩;go_upto_region 2 with fail;go_loopg [6,7] (jb+1-a) (λk v6 v7 wr=>∃(i j:Nat) (Gk:Nat->Nat),v6=vi i/\v7=vi j/\(a<=i/\i<=j+1/\j<b)/\j+1-i<=k/\Hid (US w g n G wr Gk))
 case atStart=>exact⟨a,jb,G,rfl,rfl,aa,aj,H⟩
 case round =>
  obtain⟨i,j,Gk,rfl,rfl,hbd,hk,HK⟩:=hrel;by_cases hij:i<j
  ·go_wp2_with fail;go_upto_region 3 with fail;go_cut [27] from 11 to 31 (λ_ wx=>Hid (US w g n G wx (swp Gk i j)))
   case first =>
    have qi:(i:Int)<(n:Int):=aa;have qj:(j:Int)<(n:Int):=aa;obtain⟨Qe,Qf,sv,ci,lH,cj,lI,hs,f1,f2⟩:=HK.o.row.two (i) (j) aa aa;go_region;all_goals
     go_wp2;go_meet;exact az (by rw[<-lH.o,<-lI.o];exact(HK.o.drewN _).swap aa aa)
   case rest =>
   have HL:=hcut;clear hcut;generalize wc=HLw at*;obtain⟨HLg,HLe⟩:∃zz,swp Gk i j=zz:=⟨_,rfl⟩;rw[HLe]at HL;clear HLe;go_wp2_with fail;go_roundg (j-1+1-(i+1))
   case measure=>omega
   case rel=>exact⟨i+1,j-1,HLg,by go_num,by first|rfl|(congr 1;omega),aa,aj,HL⟩
  go_wp2_with fail;go_end0;exact⟨rfl,Gk,HK.o⟩
def Vm (h:UR w g n G)(c a b pv:Nat)(hab:a<b)(hp:a<=pv/\pv<b)(hb:b<=n)(hn:n<1000000) :
  ac4 prog 192 #[.slice (some ⟨g,0,none⟩) n c,vi a,vi b,vi pv] w λe w'=>∃(m:Nat) (t:Bool),e=ab4 (.tuple #[vi m,.bool t])/\a<=m/\m<b/\∃G',US w g n G w' G':=by
 have H:=az (US.refl h);clear h;go_in;obtain⟨j,hj⟩:∃j:Nat,(b:Int)-1=j:=⟨b-1,aa⟩;go_upto_region 1 with fail;go_cut [25] from 12 to 25 (λ_ wx=>Hid (US w g n G wx (swp G a pv)))
 case first =>
  have qa:(a:Int)<(n:Int):=aa;have qpv:(pv:Int)<(n:Int):=aa;obtain⟨Qe,Qf,sv,ci,lH,cj,lI,hs,f1,f2⟩:=H.o.row.two (a) (pv) aa aa;go_region;all_goals
   go_wp2;go_meet;exact az (by rw[<-lH.o,<-lI.o];exact(H.o.drewN _).swap aa aa)
 case rest =>
 have H1:=hcut;clear hcut;generalize wc=H1w at*;obtain⟨Ws,H1e⟩:∃zz,swp G a pv=zz:=⟨_,rfl⟩;rw[H1e]at H1;clear H1e;go_upto_block 0 with fail;go_upto_block 0 with fail;go_cut [10] from 30 to 45 (λv wx=>∃i:Nat,v=vi i/\(a+1<=i/\i<=j+1)/\Hid (US w g n G wx Ws))
 case first =>
  go_wp2_with fail;go_loopg [10] (j+1-(a+1)) (λk v wr=>∃i:Nat,v=vi i/\(a+1<=i/\i<=j+1)/\(j+1-i)<=k/\Hid (US w g n G wr Ws))
  case atStart=>exact⟨a+1,by first|rfl|go_num|(congr 1;omega),aa,aj,H1⟩
  case round =>
   obtain⟨i,rfl,hb,hk,HI⟩:=hrel;by_cases hij:i<=j
   ·have hd:(i:Int)<=(j:Int):=aa;have qi:(i:Int)<(n:Int):=aa;have qa:(a:Int)<(n:Int):=aa;obtain⟨Gu,ca,JA⟩:=HI.o.row.kn (i) aa;obtain⟨cbv,cb,JB⟩:=HI.o.row.kn (a) aa;go_wp2_with fail;go_quiet (first|(go_at_call 190;refine af1 (fw _ _ _)));generalize (decide (Gu<cbv))=tt;cases tt
    ·go_wp2;go_meet;exact⟨i,rfl,aa,az (HI.o.drewN _)⟩
    go_wp2_with fail;go_roundg ((j+1-(i+1)))
    case measure=>omega
    case rel=>exact⟨(i+1),by first|rfl|go_num|(congr 1;omega),aa,aj,az (HI.o.drewN _)⟩
   have hd:decide ((i:Int)<=(j:Int))=false:=decide_eq_false aa;go_wp2_with fail;go_quiet (fail);go_wp2;go_meet;exact⟨i,rfl,aa,az (HI.o.drewN _)⟩
 case rest =>
 obtain⟨i,rfl,H2b,H2⟩:=hcut;generalize wc=H2w at*;go_upto_block 2 with fail;go_cut [11] from 46 to 62 (λv wx=>∃j:Nat,v=vi j/\(i<=j+1/\j<b/\a<=j)/\Hid (US w g n G wx Ws))
 case first =>
  go_wp2_with fail;go_loopg [11] (j+1-i) (λk v wr=>∃j:Nat,v=vi j/\(i<=j+1/\j<b/\a<=j)/\(j+1-i)<=k/\Hid (US w g n G wr Ws))
  case atStart=>exact⟨j,by first|rfl|go_num|(congr 1;omega),aa,aj,H2⟩
  case round =>
   obtain⟨j,rfl,hb,hk,HI⟩:=hrel;by_cases hij:i<=j
   ·have hd:(i:Int)<=(j:Int):=aa;have qj:(j:Int)<(n:Int):=aa;have qa:(a:Int)<(n:Int):=aa;obtain⟨Gu,ca,JA⟩:=HI.o.row.kn (j) aa;obtain⟨cbv,cb,JB⟩:=HI.o.row.kn (a) aa;go_wp2_with fail;go_quiet (first|(go_at_call 190;refine af1 (fw _ _ _)));generalize (!decide (Gu<cbv))=tt;cases tt
    ·go_wp2;go_meet;exact⟨j,rfl,aa,az (HI.o.drewN _)⟩
    go_wp2_with fail;go_roundg (((j-1)+1-i))
    case measure=>omega
    case rel=>exact⟨(j-1),by first|rfl|go_num|(congr 1;omega),aa,aj,az (HI.o.drewN _)⟩
   have hd:decide ((i:Int)<=(j:Int))=false:=decide_eq_false aa;go_wp2_with fail;go_quiet (fail);go_wp2;go_meet;exact⟨j,rfl,aa,az (HI.o.drewN _)⟩
 case rest =>
 obtain⟨j,rfl,H3b,H3⟩:=hcut;generalize wc=H3w at*;by_cases hij:j<i
 ·go_wp2_with fail;go_upto_region 8 with fail;go_cut [79] from 66 to 79 (λ_ wx=>Hid (US w g n G wx (swp Ws j a)))
  case first =>
   have qj:(j:Int)<(n:Int):=aa;have qa:(a:Int)<(n:Int):=aa;obtain⟨Qe,Qf,sv,ci,lH,cj,lI,hs,f1,f2⟩:=H3.o.row.two (j) (a) aa aa;go_region;all_goals
    go_wp2;go_meet;exact az (by rw[<-lH.o,<-lI.o];exact(H3.o.drewN _).swap aa aa)
  case rest =>
  have H4:=hcut;clear hcut;generalize wc=H4w at*;obtain⟨H4g,H4e⟩:∃zz,swp Ws j a=zz:=⟨_,rfl⟩;rw[H4e]at H4;clear H4e;go_wp2;go_ret2;exact⟨j,true,rfl,aa,aa,H4g,H4.o⟩
 go_wp2_with fail;go_upto_region 10 with fail;go_cut [94] from 81 to 94 (λ_ wx=>Hid (US w g n G wx (swp Ws i j)))
 case first =>
  have qi:(i:Int)<(n:Int):=aa;have qj:(j:Int)<(n:Int):=aa;obtain⟨Qe,Qf,sv,ci,lH,cj,lI,hs,f1,f2⟩:=H3.o.row.two (i) (j) aa aa;go_region;all_goals
   go_wp2;go_meet;exact az (by rw[<-lH.o,<-lI.o];exact(H3.o.drewN _).swap aa aa)
 case rest =>
 have H4:=hcut;clear hcut;generalize wc=H4w at*;obtain⟨H4g,H4e⟩:∃zz,swp Ws i j=zz:=⟨_,rfl⟩;rw[H4e]at H4;clear H4e;go_upto_block 4 with fail;obtain⟨i1,hi1⟩:∃i1:Nat,(i:Int)+1=i1:=⟨i+1,aa⟩;obtain⟨j1,hj1⟩:∃j1:Nat,(j:Int)-1=j1:=⟨j-1,aa⟩;go_cut [10,11] from 99 to 152 (λv10 v11 wx=>∃(i j:Nat) (Gk:Nat->Nat),v10=vi i/\v11=vi j/\(a<=j/\j<b)/\Hid (US w g n G wx Gk))
 case first =>
  go_wp2_with fail;go_loopg [10,11] (j1+2-i1) (λk v10 v11 wr=>∃(i j:Nat) (Gk:Nat->Nat),v10=vi i/\v11=vi j/\(a+1<=i/\i<=j+2/\a<=j/\j<b)/\j+2-i<=k/\Hid (US w g n G wr Gk))
  case atStart=>exact⟨i1,j1,H4g,by first|rfl|(congr 1<;>omega),by first|rfl|(congr 1<;>omega),aa,aj,H4⟩
  case round =>
   obtain⟨i0,j0,Gk,rfl,rfl,hbd,hk,HK⟩:=hrel;go_upto_block 6 with fail;go_cut [10] from 99 to 152 (λv wx=>∃i:Nat,v=vi i/\(a+1<=i/\i0<=i/\i<=j0+2)/\Hid (US w g n G wx Gk))
   case first =>
    go_wp2_with fail;go_loopg [10] (j0+2-i0) (λk v wr=>∃i:Nat,v=vi i/\(a+1<=i/\i0<=i/\i<=j0+2)/\(j0+2-i)<=k/\Hid (US w g n G wr Gk))
    case atStart=>exact⟨i0,by first|rfl|go_num|(congr 1;omega),aa,aj,HK⟩
    case round =>
     obtain⟨i,rfl,hb,hk,HI⟩:=hrel;by_cases hij:i<=j0
     ·have hd:(i:Int)<=(j0:Int):=aa;have qi:(i:Int)<(n:Int):=aa;have qa:(a:Int)<(n:Int):=aa;obtain⟨Gu,ca,JA⟩:=HI.o.row.kn (i) aa;obtain⟨cbv,cb,JB⟩:=HI.o.row.kn (a) aa;go_wp2_with fail;go_quiet (first|(go_at_call 190;refine af1 (fw _ _ _)));generalize (decide (Gu<cbv))=tt;cases tt
      ·go_wp2;go_meet;exact⟨i,rfl,aa,az (HI.o.drewN _)⟩
      go_wp2_with fail;go_roundg ((j0+2-(i+1)))
      case measure=>omega
      case rel=>exact⟨(i+1),by first|rfl|go_num|(congr 1;omega),aa,aj,az (HI.o.drewN _)⟩
     have hd:decide ((i:Int)<=(j0:Int))=false:=decide_eq_false aa;go_wp2_with fail;go_quiet (fail);go_wp2;go_meet;exact⟨i,rfl,aa,az (HI.o.drewN _)⟩
   case rest =>
   obtain⟨i,rfl,H5b,H5⟩:=hcut;generalize wc=H5w at*;go_upto_block 8 with fail;go_cut [11] from 99 to 152 (λv wx=>∃j:Nat,v=vi j/\(i<=j+2/\j<=j0/\a<=j)/\Hid (US w g n G wx Gk))
   case first =>
    go_wp2_with fail;go_loopg [11] (j0+2-i) (λk v wr=>∃j:Nat,v=vi j/\(i<=j+2/\j<=j0/\a<=j)/\(j+2-i)<=k/\Hid (US w g n G wr Gk))
    case atStart=>exact⟨j0,by first|rfl|go_num|(congr 1;omega),aa,aj,H5⟩
    case round =>
     obtain⟨j,rfl,hb,hk,HI⟩:=hrel;by_cases hij:i<=j
     ·have hd:(i:Int)<=(j:Int):=aa;have qj:(j:Int)<(n:Int):=aa;have qa:(a:Int)<(n:Int):=aa;obtain⟨Gu,ca,JA⟩:=HI.o.row.kn (j) aa;obtain⟨cbv,cb,JB⟩:=HI.o.row.kn (a) aa;go_wp2_with fail;go_quiet (first|(go_at_call 190;refine af1 (fw _ _ _)));generalize (!decide (Gu<cbv))=tt;cases tt
      ·go_wp2;go_meet;exact⟨j,rfl,aa,az (HI.o.drewN _)⟩
      go_wp2_with fail;go_roundg (((j-1)+2-i))
      case measure=>omega
      case rel=>exact⟨(j-1),by first|rfl|go_num|(congr 1;omega),aa,aj,az (HI.o.drewN _)⟩
     have hd:decide ((i:Int)<=(j:Int))=false:=decide_eq_false aa;go_wp2_with fail;go_quiet (fail);go_wp2;go_meet;exact⟨j,rfl,aa,az (HI.o.drewN _)⟩
   case rest =>
   obtain⟨j,rfl,H6b,H6⟩:=hcut;generalize wc=H6w at*;by_cases hij:j<i
   ·go_wp2;go_meet;exact⟨i,j,Gk,rfl,rfl,aa,H6⟩
   go_wp2_with fail;go_upto_region 18 with fail;go_cut [148] from 99 to 152 (λ_ wx=>Hid (US w g n G wx (swp Gk i j)))
   case first =>
    have qi:(i:Int)<(n:Int):=aa;have qj:(j:Int)<(n:Int):=aa;obtain⟨Qe,Qf,sv,ci,lH,cj,lI,hs,f1,f2⟩:=H6.o.row.two (i) (j) aa aa;go_region;all_goals
     go_wp2;go_meet;exact az (by rw[<-lH.o,<-lI.o];exact(H6.o.drewN _).swap aa aa)
   case rest =>
   have H7:=hcut;clear hcut;generalize wc=H7w at*;obtain⟨H7g,ZV⟩:∃zz,swp Gk i j=zz:=⟨_,rfl⟩;rw[ZV]at H7;clear ZV;go_wp2_with fail;go_roundg (j-1+2-(i+1))
   case measure=>omega
   case rel=>exact⟨i+1,j-1,H7g,by go_num,by first|rfl|(congr 1;omega),aa,aj,H7⟩
 case rest =>
 obtain⟨i,j,Gk,rfl,rfl,hbd,H8⟩:=hcut;generalize wc=H8w at*;go_upto_region 21 with fail;go_cut [166] from 153 to 166 (λ_ wx=>Hid (US w g n G wx (swp Gk j a)))
 case first =>
  have qj:(j:Int)<(n:Int):=aa;have qa:(a:Int)<(n:Int):=aa;obtain⟨Qe,Qf,sv,ci,lH,cj,lI,hs,f1,f2⟩:=H8.o.row.two (j) (a) aa aa;go_region;all_goals
   go_wp2;go_meet;exact az (by rw[<-lH.o,<-lI.o];exact(H8.o.drewN _).swap aa aa)
 case rest =>
 have H9:=hcut;clear hcut;generalize wc=H9w at*;obtain⟨H9g,H9e⟩:∃zz,swp Gk j a=zz:=⟨_,rfl⟩;rw[H9e]at H9;clear H9e;go_wp2;go_ret2;exact⟨j,false,rfl,aa,aa,H9g,H9.o⟩
end us
end Go.Proofs.YtllmbcigmimgoaaGreat
