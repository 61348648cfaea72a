/-
  NodeApart: files of one pool have no page in common, and what is done with one changes no other. No conditions.
-/
import Derived.Test.YtllmbcigmimgoaaGreatZC11
set_option maxRecDepth 100000
set_option maxHeartbeats 20000000
set_option linter.all false
namespace Go.Proofs.YtllmbcigmimgoaaGreat
open _root_.Go.Proofs.Tryz
open _root_.Go renaming World->acL
open _root_.Go.IntWalk renaming i64_in->adl
open _root_.Go.Obj renaming deferred->adL,cells->ach
open _root_.Go.RowKit.Below renaming refl->ac3
open _root_.Go.Value renaming bool->acg,slice->aco
open _root_.Go.World renaming putObj_heap_other->af4
namespace nodeApart
open ChangeShapes WideShapes ChangeAt RowKit Deep
open mgr ft ino po df lw
attribute [local go_sem] Oper.semAt_some
def upto (p:Po)(is:Nat->PI.bF)(k:Nat):List Int:=(List.range k).flatMap λj=>(p.jy (is j)).map λx=>(x.2.1:Int)
theorem agU (p:Po)(is:Nat->PI.bF)(k:Nat):upto p is (k+1)=upto p is k++(p.jy (is k)).map λx=>(x.2.1:Int):=by
 unfold upto;rw[List.range_succ,List.flatMap_append,List.flatMap_cons,List.flatMap_nil,List.append_nil]
variable{is:Nat->PI.bF}
theorem agY {p:Po}(h:o6 p is):(upto p is 3).Nodup:=by
 have e:upto p is 3=(p.own (is 0)++p.own (is 1)++p.own (is 2)).map λ(n:Nat)=>(n:Int):=by
  unfold upto Po.own;simp[List.range_succ];rfl
 rw[e];exact List.pairwise_map.2 (h.ahj.imp λh e=>h aa)
theorem ahI {l:List Int}(h:l.Nodup){i j:Nat}(hi:i<l.length)(hj:j<i):¬l.getD i 0=l.getD j 0:=by
 have h1:=List.pairwise_iff_getElem.1 h j i aa hi hj;rw[List.getD_eq_getElem?_getD,List.getD_eq_getElem?_getD,List.getElem?_eq_getElem hi,List.getElem?_eq_getElem aa];exact λe=>h1 e.symm
theorem agK {p:Po}{Fs:Nat->DF}(h:Fl p 3 is Fs):∀k,(upto p is k).length<=2000*k
 |0=>aj
 |k+1=>by
  have h1:=agK h k
  have h2:=h.takes k
  have h3:=kg (Fs k).z
  rw[agU,List.length_append,List.length_map]
  omega
structure ajG (w4:acL)(c z:Nat)(p:Po)(is:Nat->PI.bF)(k:Nat)(L:List Nat)(wr:acL):Prop where
 rd:gD c w4 wr
 row:∃v,aD wr z 31 #[v]/\dZ wr w4.heap.size v (upto p is k)
 nd:L.Nodup
 nW:∀D∈L,w4.heap.size<=D/\wr.heap[D]?=some (adL (some []))
theorem agD {w':acL}{v0:Value}(tmps:Array Value)(h2:tmps[6]?=some v0):(results Tryz.f4 tmps).run prog w'=.ok v0 w':=by
 simp only[results,results4];simp[go_sem,h2]
theorem walk (n:Int)(y:qB eQ)(o:eQ)(w:acL)(hy:fe w.heap.size w y.a y.l)(ho:o.ok w.heap.size w):Calls prog 4 #[vi n,y.v,.agg o.cs.toArray] w λe w'=>e=.returned (acg true)/\Below w.heap.size w w':=by
 obtain⟨ya,l,yc⟩:=y;obtain⟨aL,file,aF,m,ba,bl,bc⟩:=o;have HL:=az hy;have HO:=az ho;dsimp only at HL;change Calls prog 4 #[vi n,aco ya l.length yc,.agg #[vi aL,vi file,vi aF,vi m,aco ba bl.length bc]] w _;clear hy ho;refine callsIn_wide.1 (callsIn_of_wp_marks (F:=Fence.wide) (n:=6) func4 rfl trivial (wpIn_wide.2 ?_) rfl);simp only[ntmps4,List.size_toArray,List.length_cons,List.length_nil,Nat.reduceAdd,Nat.reduceSub,Array.replicate_succ,Array.replicate_zero,List.push_toArray,List.append_toArray,List.nil_append,List.cons_append];go_upto_region 1 with fail;refine mD λw1 HB1 NL=>?_
 have HL1:=az (HL.o.old HB1.o);have yK:=az (HO.o.old HB1.o);obtain⟨y,hy⟩:∃y,y=w.heap.size:=⟨_,rfl⟩;rw[<-hy]at NL ⊢;clear hy;have y0:w1.cell? ⟨y,0,none⟩=some (vi aL):=NL.o.cell 0;have y1:w1.cell? ⟨y,1,none⟩=some (vi file):=NL.o.cell 1;have y2:w1.cell? ⟨y,2,none⟩=some (vi aF):=NL.o.cell 2;have y3:w1.cell? ⟨y,3,none⟩=some (vi m):=NL.o.cell 3;have y4:w1.cell? ⟨y,4,none⟩=some (aco ba bl.length bc):=NL.o.cell 4;go_cut [29] from 7 to 128 (λv29 wx=>∃b:Bool,v29=acg b/\Hid (Below w.heap.size w wx/\aD wx y 48 #[vi aL,vi file,vi aF,vi m,aco ba bl.length bc])/\Hid (b=false->owt l<=20000))
 case first =>
  go_wp2_with fail;refine(ru yc HL1.o).mono ?_;rintro e2 w2 ⟨t,rfl,rfl,hs⟩;have HS:=az hs;clear hs;cases t
  ·have HSN:=az (HS.o rfl);clear HS;go_wp2_with fail;have HLG:Hid (Calls prog 9 #[aco (some ⟨w2.heap.size,0,none⟩) 1 1] (w2.alloc (ach #[vi aL,vi file,vi aF,vi m,aco ba bl.length bc] 48)) (Y8 [⟨aL,file,aF,m,ba,bl,bc⟩] (w2.alloc (ach #[vi aL,vi file,vi aF,vi m,aco ba bl.length bc] 48)))):=az (ru 1 (YZ (o:=⟨aL,file,aF,m,ba,bl,bc⟩) rfl (yK.o.up HB1.o.size)));refine HLG.o.mono ?_;rintro e3 w3 ⟨t,rfl,rfl,-⟩;have HB3:=az (HB1.o.alloc HB1.o.size (ach #[vi aL,vi file,vi aF,vi m,aco ba bl.length bc] 48));have Pb:=az (NL.o.alloc (ach #[vi aL,vi file,vi aF,vi m,aco ba bl.length bc] 48))
   clear y0 y1 y2 y3 y4 HLG;generalize w2.alloc (ach #[vi aL,vi file,vi aF,vi m,aco ba bl.length bc] 48)=w3 at*;go_wp2;go_meet;exact⟨t,by cases t<;>rfl,az ⟨HB3.o,Pb.o⟩,az (λ_=>HSN.o)⟩
  go_wp2;go_meet;exact⟨true,rfl,az ⟨HB1.o,NL.o⟩,az (λh=>by cases h)⟩
 case rest =>
 obtain⟨b,rfl,hw,hb⟩:=hcut;have HW:=az hw.o;have Zl:=az hb.o;clear hw hb y0 y1 y2 y3 y4 HB1 NL;obtain⟨v,hv⟩:∃v,v=wc:=⟨_,rfl⟩;subst hv;cases b;rotate_left
 ·go_wp2_with fail;refine(jB _).mono ?_;rintro e6 w6 ⟨rfl,hb6⟩;have uC:Hid (Below w.heap.size w w6):=az (HW.o.1.trans (hb6.mono HW.o.1.size));clear hb6;go_wp2;exact K9 [] _ List.nodup_nil (λ_ h=>by cases h) (λW hW=>⟨agD _ rfl,rfl,uC.o.trans (hW.dX (λn _ e=>by cases e) uC.o.size)⟩)
 have HN:=az (Zl.o rfl);have Zq:Hid (fe v.heap.size v ya l):=az ((HL.o.old HW.o.1).up HW.o.1.size);have HOV:Hid ((⟨aL,file,aF,m,ba,bl,bc⟩:eQ).ok v.heap.size v):=az ((HO.o.old HW.o.1).up HW.o.1.size);clear Zl HL1 yK HL HO;go_wp2_with fail;refine(vo v n ya l yc v ak Zq.o HN.o).mono ?_;rintro e2 w2 ⟨q,K,p,is,Fs,D,a,e,rfl,hon⟩;have zJ:=az hon;have HLEN:Hid (l.length<1000):=az (by have:=Fu l;have:=HN.o;omega);have H1:=az (fu q is D);clear hon Zq HN;go_upto_region 4 with (refine fU (C:=aO q is D) rfl rfl (.tmp 7) (.tmp 35) rfl rfl rfl rfl H1.o ?_;intro w4 hb4 hl4;have nJ:=az hb4;have uf:=az hl4;clear hb4 hl4)
 have iH:Hid (¬KQ K q w2.heap.size):=az (VX zJ.o.run.pq aj);have pI:Hid (Below v.heap.size v w4):=az (zJ.o.dW.trans (uf.o.mono zJ.o.dW.size));have Sm:=az (zJ.o.old uf.o);have HY4:Hid (aD w4 y 48 #[vi aL,vi file,vi aF,vi m,aco ba bl.length bc]):=az (HW.o.2.old pI.o);have MV:Hid (¬KQ K q y):=az (λe=>by have:=Mq zJ.o.run.pq _ e;have:=HW.o.2.lt;omega);generalize w2.heap.size=x at*;obtain⟨c,hc,_⟩:=Sm.o.run.pq.iN;have HC:=az hc;have FE:Hid (c<w4.heap.size/\x≠c/\y≠c):=az (by
  have h1:=Sm.o.run.pq.pK hc
  exact⟨Sm.o.run.pq.lt _ h1.1,λe=>iH.o (.inl (e▸h1.1)),λe=>MV.o (.inl (e▸h1.1))⟩)
 clear hc zJ uf H1;go_upto_region 7 with fail;change Code.wp _ _ _ _ (w4.alloc (ach #[aco none 0 0] 31));obtain⟨z,hz⟩:∃z,z=w4.heap.size:=⟨_,rfl⟩;have HZ:=az hz;have alC:Hid (ajG w4 c z p is 0 [] (w4.alloc (ach #[aco none 0 0] 31))):=az (by
  subst hz
  exact⟨gD.of_below ax,⟨_,aD.new w4 _ _,acL.ownsRow_nil _ _ _ _⟩,List.nodup_nil,λD h=>by cases h⟩)
 rw[<-hz];clear hz;generalize w4.alloc (ach #[aco none 0 0] 31)=w5 at*;go_wp2_with fail;refine wp_loop (λa' wr=>∃(k:Nat) (L:List Nat) (e11 e12 e39 e40 e41 e42 e43 e44 e45 e46 e47 e48 e49 e50 e51 e52 e53 e54 e55 e56 e57 e58:Value),k<=3/\Hid (ajG w4 c z p is k L wr)/\a'={tmps:=#[vi n,aco ya l.length yc,.agg #[vi aL,vi file,vi aF,vi m,aco ba bl.length bc],undef,undef,.pointer (some ⟨y,0,none⟩),acg false,.pointer (some ⟨x,0,none⟩),acg true,.pointer (some ⟨z,0,none⟩),vi k,e11,e12,u13,u14,u15,u16,u17,u18,u19,u20,u21,u22,u23,u24,u25,u26,u27,u28,acg false,u30,.tuple #[.agg (aI (aO q is D)),acg true],vi n,aco ya l.length yc,.tuple #[.agg (aI (aO q is D)),acg true],.agg (aI (aO q is D)),acg true,acg true,acg false,e39,e40,e41,e42,e43,e44,e45,e46,e47,e48,e49,e50,e51,e52,e53,e54,e55,e56,e57,e58,u59,u60,u61,u62,u63,u64,u65,u66,u67,u68,u69,u70,u71,u72,u73,u74,u75,u76,u77,u78,u79,u80,u81,u82,u83,u84,u85,u86,u87,u88,u89,u90,u91,u92,u93,u94,u95,u96,u97,u98,u99,u100,u101,u102,u103,u104,u105,u106,u107,u108,u109,u110,u111,u112,u113,u114,u115,u116,u117,u118,u119,u120,u121,u122,u123,u124,u125,u126,u127],defers:=marks L}) (λa' _=>3-(intOf (a'.tmps.getD 10 undef)).toNat) ?_ ?_
 exact⟨0,[],_,_,_,_,_,_,_,_,_,_,_,_,_,_,_,_,_,_,_,_,_,_,aa,alC,rfl⟩;rintro a' wr ⟨k,L,e11,e12,e39,e40,e41,e42,e43,e44,e45,e46,e47,e48,e49,e50,e51,e52,e53,e54,e55,e56,e57,e58,hk3,hst,rfl⟩;dsimp only;have eX:=az hst.o;clear hst alC;by_cases hk:k<3
 ·have n1:(k:Int)<3:=aa;have r2:IntKind.i64.wrap ((k:Int)+1)=((k+1:Nat):Int):=by rw[adl _ aa];omega
  have uE:=az hk;obtain⟨kd,ln,sz,d0,d1,d2,d3,d4,d5,sg,db,hik⟩:=oW is k (Sm.o.run.fl.fam.six k);have hi:=wP (q:=q) (D:=D) (x:=x) uE.o hik;have HIK:=az hik;have HXR:Hid (aD wr x 37 (aI (aO q is D))):=az (nJ.o.aJ eX.o.rd.1 (by have:=FE.o;omega));have uG:Hid (aD wr.drew x 37 (aI (aO q is D))):=az HXR.o.drew;have HOW:=az (Qg (w:=wr.drew) q ⟨kd,ln,sz,[d0,d1,d2,d3,d4,d5],sg,db⟩ rfl);simp only[dS,j4]at HOW;have q1:∀(W:acL) (a b:Nat),(binOp .eql 50 (.func (.func 36) #[] #[ptr a,ptr b]) .nilFunc).run prog W=.ok (acg false) W:=λW a b=>agR W _ _ _
  clear hk3 hik;go_upto_region 10 with fail;go_region_held3 (λW'=>aD W' x 37 (aI (aO q is D)))
   (with_reducible (first|exact uG.o|exact fV.o|fail))
   ((go_at_call 15;refine HOW.o.mono ?_;rintro e3 w3 ⟨rfl,hw3⟩;have HB3:Hid (Below wr.heap.size wr w3):=az (by rw[hw3];exact((au.alloc aj _).alloc ai _));have HP3:Hid (aD w3 wr.heap.size 26 #[ptr q]):=az (by rw[hw3];exact(aD.new wr.drew _ _).alloc _);have HI3:Hid (aD w3 (wr.heap.size+1) 29 (j4 ⟨kd,ln,sz,[d0,d1,d2,d3,d4,d5],sg,db⟩)):=az (by rw[hw3];have h:=aD.new (wr.drew.alloc (ach #[ptr q] 26)) 29 (j4 ⟨kd,ln,sz,[d0,d1,d2,d3,d4,d5],sg,db⟩);rwa[size_alloc]at h);have fV:Hid (aD w3 x 37 (aI (aO q is D))):=az (HXR.o.old HB3.o);clear hw3))
  go_wp2_with fail;have ahC:Hid (gD c w4 w3):=az (eX.o.rd.trans (gD.of_below HB3.o));have HR3:Hid (∃v,aD w3 z 31 #[v]/\dZ w3 w4.heap.size v (upto p is k)):=az (by
   obtain⟨v,h1,h2⟩:=eX.o.row
   exact⟨v,h1.old HB3.o,h2.old HB3.o⟩)
  have HD3:Hid (∀E∈L,w4.heap.size<=E/\w3.heap[E]?=some (adL (some []))):=az (λE hE=>⟨(eX.o.nW E hE).1,(HB3.o.block E (eT (eX.o.nW E hE).2)).trans (eX.o.nW E hE).2⟩);have HW3:Hid (w4.heap.size<=w3.heap.size/\z<w3.heap.size):=az ⟨ahC.o.1.size,by obtain⟨_,h1,_⟩:=HR3.o;exact h1.lt⟩;have GQ:=az eX.o.nd;have D6:=az Sm.o.run.fl;have HWF:Hid (p.wf ⟨kd,ln,sz,[d0,d1,d2,d3,d4,d5],sg,db⟩):=az (by rw[<-HIK.o];exact D6.o.fam.wf k);have HUL:Hid ((upto p is k).length<=9000):=az (Nat.le_trans (agK D6.o k) (by have:=uE.o;omega));clear eX HXR uG fV HOW q1 hi HB3
  generalize wr.heap.size=pb at*;refine(wpIn_wide (n:=6)).1 ?_;refine ic (n:=6) aa (gf:=36) (lb:=#[ptr pb,ptr (pb+1)]) rfl (dI func36 ah rfl) (λW=>gD c w4 W/\(∃v,aD W z 31 #[v]/\dZ W w4.heap.size v (upto p is (k+1)))/\∀E∈L,W.heap[E]?=some (adL (some []))) ?hc ?hd
  case hc =>
   intro fn;generalize hro:Obj.loop (ja fn _ _ _ _ _ _ _)=ro at*;have pI:Hid (Below w3.heap.size w3 ((w3.alloc (adL (some []))).alloc ro)):=az (ax.alloc ai _);have hl4:((w3.alloc (adL (some []))).alloc ro).heap[w3.heap.size+1]?=some ro:=by
    have h:=acL.alloc_heap_new (w3.alloc (adL (some []))) ro;rwa[acL.size_alloc]at h
   have hd4:((w3.alloc (adL (some []))).alloc ro).heap[w3.heap.size]?=some (adL (some [])):=(Below.heap_alloc _ _ _ ai).trans (acL.alloc_heap_new w3 _);have HAK:Hid (agA w4 w3.heap.size (w3.heap.size+1) (ApI w4 z w3.heap.size (w3.heap.size+1) (upto p is k))):=az (aoB ⟨by have:=HZ.o;omega,HW3.o.2,aa⟩);have Wd:Hid (ahT w4 c (w3.heap.size+1) ro (λ_=>False) (ApI w4 z w3.heap.size (w3.heap.size+1) (upto p is k)) (ApI w4 z w3.heap.size (w3.heap.size+1) (upto p is k))):=az (by
    subst hro
    intro its u G W hn _ _ hI hl
    refine(rY (R:=λW'=>aP (λm=>G m\/m=w3.heap.size+1) W W'/\(∃G',ApI w4 z w3.heap.size (w3.heap.size+1) (upto p is k) (its++[u]) G' W'/\∀m,G' m->G m\/W.heap.size<=m)/\W'.heap[w3.heap.size+1]?=W.heap[w3.heap.size+1]?) hl rfl rfl rfl ?_).mono ?_
    rotate_left
    rintro e W' ⟨rfl,h1,h2,h3⟩
    exact⟨h1,.inl ⟨rfl,h3.trans hl,h2⟩⟩
    have HL:=az hl
    have ig:Hid (w3.heap.size+1<W.heap.size):=az (eT hl)
    have HI:=az hI
    have XP:=az hn
    clear hl hI hn hl4 hd4 pI
    unfold ja at HL ⊢
    dsimp only at HL ⊢
    gi_wp2
    refine⟨HL.o,?_⟩
    generalize Dx:Obj.loop {state:=LoopState.busy,pending:=none,fn:=fn,tmps:=_,params:=_,assign:=_,body:=_,defers:=_}=ob
    have HW1:Hid (aP (λm=>m=w3.heap.size+1) W (W.putObj (w3.heap.size+1) ob)):=az ⟨rfl,rfl,rfl,by simp[acL.putObj],λm hm e=>af4 (λe2=>e e2)⟩
    have yK:Hid ((W.putObj (w3.heap.size+1) ob).heap[w3.heap.size+1]?=some ob):=az (acL.putObj_heap_same ig.o)
    have HI1:=az (HAK.o.aJ HI.o HW1.o (λn hn e=>(HAK.o.lt HI.o n hn).2.2.1 e))
    obtain⟨v1,w5',a5,n5,c5,c0,hrun,JX,G',hA,hf,hc⟩:=ahX HI1.o (by have:=HZ.o;omega) aa (eT yK.o) HUL.o XP.o u
    have RA:=az hrun
    have HFT:=az hf
    have z0:=JX.frozen 0
    have z1:=JX.cell 0
    obtain⟨un,up,ul⟩:=u
    dsimp only at RA
    have HE:=az (agS HAK.o HAK.o HI1.o HW1.o hc yK.o hA)
    have HSW:Hid (W.heap.size<=(W.putObj (w3.heap.size+1) ob).heap.size):=az HW1.o.size
    clear hrun hA hf hc JX Dx
    generalize W.putObj (w3.heap.size+1) ob=W1 at*
    gi_wp2_with (gi_at_builtin;refine us.lS rfl (.tmp 55) (.tmp 57) rfl rfl rfl RA.o.run ?_)
    exact⟨HE.o.1,(HE.o.2 _).1,⟨_,(HE.o.2 _).2.1,λm e=>(HFT.o m e).imp id (λh=>Nat.le_trans HSW.o h)⟩,(HE.o.2 _).2.2.trans HL.o.symm⟩)
   obtain⟨v0,hv1,hv2⟩:=HR3.o;have JY:=ahG (w0:=w4) (D:=w3.heap.size) (l:=w3.heap.size+1) hv1 hv2 aj aa;have hA4:=HAK.o.aJ JY (aP.of_below pI.o) (H:=λ_=>False) (λ_ _ h=>h);refine(agJ (Pr:=λ_=>False) Sm.o.run.pq HC.o HWF.o HAK.o HAK.o ⟨HW3.o.1,aa⟩ Wd.o (ahC.o.trans (gD.of_below pI.o)) (HP3.o.old pI.o) (HI3.o.old pI.o) hA4 hl4 hd4).mono ?_;rintro e W ⟨rfl,h1,h2,h3,⟨h4,G',hA⟩|⟨_,_,_,_,hf,_⟩⟩;refine⟨⟨_,rfl⟩,h4,h3,h1,?_,λE hE=>?_⟩;obtain⟨v,b1,b2,_,_⟩:=hA.ex;exact⟨v,b1,by rw[agU,HIK.o];exact b2⟩;have h5:=HD3.o E hE;have h6:=eT h5.2
   refine((h2.block E (Nat.lt_of_lt_of_le h6 pI.o.size) (λe=>?_)).trans (pI.o.block E h6)).trans h5.2;rcases e with e|e|e;obtain⟨_,_,_,_,_,hb⟩:=HAK.o.lt JY E e;exact agw hb h5.2 rfl;omega;have:=FE.o;omega;exact hf.elim
  case hd =>
   intro W o r hR hD hl;obtain⟨h1,⟨v,h2,h3⟩,h4⟩:=hR;have hp:aP (λm=>m=w3.heap.size+1) W (W.putObj (w3.heap.size+1) o):=⟨rfl,rfl,rfl,by simp[acL.putObj],λm hm e=>af4 (λe2=>e e2)⟩;have HST:Hid (ajG w4 c z p is (k+1) (w3.heap.size::L) (W.putObj (w3.heap.size+1) o)):=az (by
    have hm:∀E,E<w3.heap.size+1->W.heap[E]?=some (adL (some []))->(W.putObj (w3.heap.size+1) o).heap[E]?=some (adL (some [])):=λE hE h=>(af4 aa).trans h
    refine⟨h1.far (hp.mono λm _ e=>by have:=HW3.o;omega) FE.o.1,⟨v,h2.aJ hp (by have:=HW3.o;omega),h3.aJ hp (λg e e2=>?_)⟩,List.nodup_cons.2 ⟨λe=>?_,GQ.o⟩,λE hE=>?_⟩
    obtain⟨_,_,cur,hb⟩:=h3.lt e
    rw[e2]at hb
    exact agw hb hl rfl
    have:=eT (HD3.o _ e).2
    omega
    rcases List.mem_cons.1 hE with rfl|hE
    exact⟨HW3.o.1,hm _ aa hD⟩
    have h5:=HD3.o E hE
    have h6:=eT h5.2
    exact⟨h5.1,hm _ aa (h4 E hE)⟩)
   clear h1 h2 h3 h4 hp hD hl;dsimp only;generalize W.putObj (w3.heap.size+1) o=W2 at*;go_wp2_with fail;refine⟨⟨k+1,w3.heap.size::L,_,_,_,_,_,_,_,_,_,_,_,_,_,_,_,_,_,_,_,_,_,_,uE.o,HST,rfl⟩,?_⟩;have:=uE.o;simp[intOf];omega
 obtain rfl:k=3:=aa;have n1:¬((3:Nat):Int)<3:=aa;have aoE:=az (agY Sm.o.run.fl.fam);have ajK:=az (agK Sm.o.run.fl 3);obtain⟨v0,hz1,hz2⟩:=eX.o.row;obtain⟨ar,cr,rfl,hir,_⟩:=hz2.zy;obtain⟨N,hN⟩:∃N,N=(upto p is 3).length:=⟨_,rfl⟩;rw[<-hN]at hz1 ajK;have Yq:=az hz1;have HIR:=az hir;have GK:=az hN;have HMK:=az (And.intro eX.o.nd eX.o.nW);have ajL:=az (Sm.o.go (bM.pM Sm.o.run.pq HC.o eX.o.rd));have xR:Hid (aD wr x 37 (aI (aO q is D))):=az (nJ.o.aJ eX.o.rd.1 (by have:=FE.o;omega));have HY5:Hid (aD wr y 48 #[vi aL,vi file,vi aF,vi m,aco ba bl.length bc]):=az (HY4.o.aJ eX.o.rd.1 (by have:=FE.o;omega))
 clear hz1 hz2 hir hN eX hk hk3;generalize upto p is 3=PL at*;obtain⟨wB,hwB⟩:∃wB,wB=wr:=⟨_,rfl⟩;subst hwB;have z9:wB.cell? ⟨z,0,none⟩=some (aco ar N cr):=Yq.o.cell 0;go_wp2_with fail;clear z9;go_loopw [13] (λv13 wx=>∃i:Nat,v13=vi i/\i<=N/\Hid (Below wB.heap.size wB wx)) (λi _=>N-(intOf i).toNat)
 case atStart=>exact⟨0,rfl,Nat.zero_le _,az ak⟩
 case round =>
 obtain⟨i,rfl,hi,hbx⟩:=hrel;have nk:=az hbx.o;clear hbx;have z9:wr.cell? ⟨z,0,none⟩=some (aco ar N cr):=(Yq.o.old nk.o).cell 0;by_cases hlt:i<N
 ·have n2:(i:Int)<(N:Int):=aa;have r3:IntKind.i64.wrap ((i:Int)+1)=((i+1:Nat):Int):=by have:=ajK.o;rw[adl _ aa];omega
  have ig:=az hlt;go_wp2_with fail;clear z9 n2 hlt;go_loopw [14] (λv14 wx=>∃j:Nat,v14=vi j/\j<=i/\Hid (Below wB.heap.size wB wx)) (λj _=>i-(intOf j).toNat)
  case atStart=>exact⟨0,rfl,Nat.zero_le _,nk⟩
  case round =>
   obtain⟨j,rfl,hj,hby⟩:=hrel;have HBY:=az hby.o;clear hby;have z9:wr.cell? ⟨z,0,none⟩=some (aco ar N cr):=(Yq.o.old HBY.o).cell 0;by_cases hji:j<i
   ·have n3:(j:Int)<(i:Int):=aa;have r4:IntKind.i64.wrap ((j:Int)+1)=((j+1:Nat):Int):=by have:=ajK.o;rw[adl _ aa];omega
    obtain⟨b,o,e0,d0⟩:=(HIR.o.below (HBY.o)).lookup (i:=i) (by have:=ig.o;have:=GK.o;omega);obtain⟨b',o',e1,d1⟩:=(HIR.o.below (HBY.o)).lookup (i:=j) (by have:=ig.o;have:=GK.o;omega);rw[e0]at e1;injection e1 with e1;injection e1 with e1 e2;subst e1 e2 e0;have nn:=ahI aoE.o (i:=i) (j:=j) (by have:=ig.o;have:=GK.o;omega) hji;have HJI:=az hji;generalize PL.getD i 0=p1 at*;generalize PL.getD j 0=p2 at*;have l1:(i:Int)<(N:Int):=by have:=ig.o;omega
    have l2:(j:Int)<(N:Int):=by have:=ig.o;omega
    clear hji hj hi;go_upto_region 22 with fail;go_region;have aoF:=az HBY.o.drew;clear d0 d1 z9 l1 l2 n3 HBY;go_wp2_with fail;clear nn;go_roundw
    case rel=>exact⟨j+1,by first|rfl|trivial|go_num|(congr 1;omega),HJI.o,aoF⟩
    case measure=>have:=HJI.o;simp[intOf];omega
   obtain rfl:j=i:=aa;have n3:¬(j:Int)<(j:Int):=aa;go_wp2;go_roundw
   case rel=>exact⟨j+1,by first|rfl|trivial|go_num|(congr 1;omega),ig.o,HBY⟩
   case measure=>have:=ig.o;simp[intOf];omega
 obtain rfl:i=N:=aa;have n2:¬(i:Int)<(i:Int):=aa;obtain⟨wC,hwC⟩:∃wC,wC=wr:=⟨_,rfl⟩;subst hwC;have ag1:=az (ajL.o.old nk.o);have BU:=az (xR.o.old nk.o);have HY6:=az (HY5.o.old nk.o);have ahK:Hid (L.Nodup/\∀E∈L,w4.heap.size<=E/\wC.heap[E]?=some (adL (some []))):=az ⟨HMK.o.1,λE hE=>⟨(HMK.o.2 E hE).1,(nk.o.block E (eT (HMK.o.2 E hE).2)).trans (HMK.o.2 E hE).2⟩⟩;have y1:wC.cell? ⟨y,1,none⟩=some (vi file):=HY6.o.cell 1;clear ajL xR HY5 HMK nk;go_wp2_with fail;refine(mf file 3 wC aa aa).mono ?_;rintro e6 w6 ⟨rfl,rfl⟩;obtain⟨hk3,C9⟩:=file3_lt file
 obtain⟨k,hkk⟩:∃k,k=file3 file:=⟨_,rfl⟩;rw[<-hkk]at hk3 C9;rw[C9];have uE:=az hk3;have HKK:=az hkk;clear C9 y1 hkk;obtain⟨k2,hk2⟩:∃k2,k2=(k+1)%3:=⟨_,rfl⟩;have r5:IntKind.i64.wrap ((k:Int)+1)=((k+1:Nat):Int):=by rw[adl _ aa];omega
 have r6:Int.tmod ((k+1:Nat):Int) 3=(k2:Int):=by rw[Int.tmod_eq_emod_of_nonneg aa];omega
 have r7:((k:Int)+1)%3=(k2:Int):=aa;have r8:IntKind.i64.wrap (k2:Int)=(k2:Int):=adl _ aa;have zG:Hid (k2<3/\k2≠k):=az aa;clear hk2 hk3;obtain⟨kd,ln,sz,d0,d1,d2,d3,d4,d5,sg,db,hik⟩:=oW is k2 (ag1.o.run.fl.fam.six k2);have hi:=wP (q:=q) (D:=D) (x:=x) zG.o.1 hik;have HIK:=az hik;obtain⟨l1,hl1⟩:∃l1,l1=rd (Fs k2) (0:Int).toNat (cnt (Fs k2) (0:Int).toNat (1024:Int).toNat):=⟨_,rfl⟩;have bK:Hid (∀(V:acL) K p' is' Qv D' a' e' n',On v V q K p' is' Qv D' a' e' n' (λ_=>False)->Qv k2=Fs k2->is' k2=is k2->Calls prog 13 #[ptr q,.agg #[vi kd,vi ln,vi sz,vi d0,vi d1,vi d2,vi d3,vi d4,vi d5,vi sg,vi db],vi 0,vi 1024] V λe w'=>∃v7 K',e=.returned (.tuple #[v7,vi 0])/\Own w' V.heap.size v7 l1/\bM v.heap.size V q K w' K' p'):=az (λV K p' is' Qv D' a' e' n' hon h1 h2=>by
  have h:=ahr hon.run k2 0 1024 aa aa aa
  rw[h2,hik,h1,<-hl1]at h
  exact h)
 have ajM:Hid (∀y∈l1,y<256):=az (λy hy=>by
  rw[hl1]at hy
  obtain⟨i,_,rfl⟩:=List.mem_map.1 hy
  exact(ag1.o.run.fl.ok k2).small _)
 clear hl1 hik;have n4:(k2:Int)<3:=by have:=zG.o;omega
 have uG:Hid (aD w6.drew x 37 (aI (aO q is D))):=az BU.o.drew;have GM:=az (bK.o _ _ _ _ _ _ _ _ _ (ag1.o.old (ac3 _ w6).drew) rfl rfl);have alD:Hid (Mk w4 q K L w6.drew):=az ⟨ahK.o.1,λE hE=>⟨(ahK.o.2 E hE).1,(ahK.o.2 E hE).2,λe=>by
  have h1:=(ahK.o.2 E hE).1
  have h2:=Sm.o.run.ZW E e
  omega⟩⟩
 go_upto_region 26 with fail;go_region_held3 (λW'=>aD W' x 37 (aI (aO q is D)))
  (with_reducible (first|exact uG.o|exact fV.o|fail))
  ((go_at_call 13;refine GM.o.mono ?_;rintro e7 w7 ⟨v7,K7,rfl,Fw,El⟩;have QT:=az Fw;have Bz:=az El;have BG:=az ((gF.fA El.go).blk BU.o.drew iH.o);have fV:Hid (aD w7 x 37 (aI (aO q is D))):=az BG.o.1;clear Fw El))
 have ag3:=az ((ag1.o.old (ac3 _ w6).drew).go Bz.o);have HRG:=az (gF.fA Bz.o.go);have HY7:=az (HRG.o.blk HY6.o.drew MV.o);have ag4:=az (alD.o.go HRG.o);have Wp:Hid (∀n,v7.ownBlock=some n->¬KQ K7 q n):=az (λn e e2=>by
  have h1:w6.heap.size<=n:=by
   rcases QT.o.2 with⟨h0,_⟩|⟨g',cap,cur,h0,hb,_⟩
   rw[h0]at e
   cases e
   rw[h0]at e
   injection e with e
   rw[<-e]
   exact hb
  rcases e2 with e2|e2
  have:=ag1.o.run.pq.lt n (Bz.o.sub n e2)
  omega
  have:=ag1.o.run.pq.JV
  omega)
 have alE:=az (ag3.o.op HOV.o);have y0:w7.cell? ⟨y,0,none⟩=some (vi aL):=HY7.o.1.cell 0;have y1:w7.cell? ⟨y,1,none⟩=some (vi file):=HY7.o.1.cell 1;have y2:w7.cell? ⟨y,2,none⟩=some (vi aF):=HY7.o.1.cell 2;have y3:w7.cell? ⟨y,3,none⟩=some (vi m):=HY7.o.1.cell 3;have y4:w7.cell? ⟨y,4,none⟩=some (aco ba bl.length bc):=HY7.o.1.cell 4;have aim:Hid (Calls prog 17 #[.agg (aI (aO q is D)),.agg #[vi aL,vi file,vi aF,vi m,aco ba bl.length bc]] w7 (CL v w7 q K7 is Fs l.length (λ_=>False) k)):=az (by
  have h:=ag3.o.step HLEN.o ⟨aL,file,aF,m,ba,bl,bc⟩ alE.o
  rw[<-HKK.o]at h
  exact h)
 clear Bz ag1 BU HY6 ahK uG fV GM alD HRG alE hi;go_wp2_with (refine mq rfl (.tmp 7) rfl rfl BG.o.1 ?_);refine aim.o.mono ?_;rintro e8 w8 ⟨K8,p8,is8,Fs8,D8,a8,e9,rfl,alG,hg8,hj8⟩;have ajR:=az alG;have HO8:=az (hg8.own QT.o Wp.o);have alH:=az (ag4.o.go hg8);have HJ8:=az (hj8 k2 zG.o.2);have H1:=az (fu q is8 D8);clear alG hg8 hj8 y0 y1 y2 y3 y4 aim ag3 BG HY7 QT Wp ag4;go_upto_region 28 with (refine fU (C:=aO q is8 D8) rfl rfl (.tmp 19) (.tmp 99) rfl rfl rfl rfl H1.o ?_;intro w9 ME hl9;have KP:=az ME;have HL9:=az hl9;clear ME hl9)
 have ajU:Hid (¬KQ K8 q w8.heap.size):=az (VX ajR.o.run.pq aj);have ajX:=az (ajR.o.old HL9.o);have HO9:Hid (Own w9 w6.drew.heap.size v7 l1/\∀n,v7.ownBlock=some n->¬KQ K8 q n):=az ⟨HO8.o.1.old HL9.o,HO8.o.2⟩;have aio:=az (alH.o.old HL9.o);obtain⟨x9,hx9⟩:∃x9,x9=w8.heap.size:=⟨_,rfl⟩;rw[<-hx9]at KP ajU ⊢;clear hx9 ajR HO8 alH HL9 H1;have hi:=wP (q:=q) (D:=D8) (x:=x9) zG.o.1 (HJ8.o.2.trans HIK.o);have uG:Hid (aD w9.drew x9 37 (aI (aO q is8 D8))):=az KP.o.drew;have HR9:=az (bK.o _ _ _ _ _ _ _ _ _ (ajX.o.old (ac3 _ w9).drew) HJ8.o.1 HJ8.o.2)
 go_region_held3 (λW'=>aD W' x9 37 (aI (aO q is8 D8)))
  (with_reducible (first|exact uG.o|exact fV.o|fail))
  ((go_at_call 13;refine HR9.o.mono ?_;rintro e10 Xy ⟨v10,K10,rfl,alI,ajY⟩;have abp:=az alI;have ajZ:=az ajY;have fV:Hid (aD Xy x9 37 (aI (aO q is8 D8))):=az ((gF.fA ajY.go).blk KP.o.drew ajU.o).1;clear alI ajY))
 have HRG:=az (gF.fA ajZ.o.go);have aip:=az ((ajX.o.old (ac3 _ w9).drew).go ajZ.o);have alK:=az ((aio.o.old (ac3 _ w9).drew).go HRG.o);have UD:=az (HRG.o.own (HO9.o.1.old (ac3 _ w9).drew) HO9.o.2);obtain⟨a7,c7,hv7,tZ,_⟩:=UD.o.1.row ajM.o;obtain⟨a10,c10,alL,RL,_⟩:=abp.o.row ajM.o;rw[hv7,alL];have lX:Hid (Calls prog 14 #[aco a7 l1.length c7,aco a10 l1.length c10] Xy λe w'=>e=.returned (acg true)/\w'=Xy):=az (pl.nX a7 a10 l1 c7 c10 Xy tZ RL);have HBF:Hid (Below w.heap.size w Xy):=az (HW.o.1.trans (aip.o.dW.mono HW.o.1.size))
 have HWS:Hid (w.heap.size<=w4.heap.size):=az (Nat.le_trans HW.o.1.size pI.o.size);clear hv7 tZ alL RL HRG ajZ uG fV HR9 HO9 abp UD aio ajX aip KP ajU hi bK ajM HIK HJ8 Sm nJ HW;go_wp2_with fail;refine lX.o.mono ?_;rintro e11 w11 ⟨rfl,rfl⟩;go_wp2_with fail;refine(jB _).mono ?_;rintro e12 w12 ⟨rfl,Hu⟩;have QI:=az Hu;clear Hu;go_wp2_with fail;have hm:=alK.o.old QI.o;have hb:=HBF.o.trans (QI.o.mono HBF.o.size);exact K9 L _ hm.nd (λE hE=>(hm.at_ E hE).2.1) (λW hW=>⟨agD _ rfl,rfl,hb.trans (hW.dX (λn _ e=>Nat.le_trans HWS.o (hm.at_ n e).1) hb.size)⟩)
theorem lifted (os:Os)(started:os.Started)(H:Type)(enc:TypeId×Value->H) :
  ReturnsInHanded {} checked os 4 .any (Rows.nodeApartSpec.pre6 enc prog Tryz.f4 Rows.nodeApartRow.domain false) (Rows.nodeApartSpec.post enc prog Tryz.f4 false true false false):=by
 refine returnsInHanded_of_change_sized (C:=checked) own started ah func4
  (ChangeSpec.witness6 (enc:=enc) (C:=checked) false ⟨#[],#[.int .i64 0,.slice none 0 0,.agg #[vi 0,vi 0,vi 0,vi 0,.slice none 0 0]],[]⟩ 8 ah ah ah ah) ?_
 intro W aA args ds gs before hval0 hW hcnd hwt _;have hval:∀(j:Nat) t v,Tryz.f4.params[j]?=some t->args[j]?=some v->Value.okWide prog W .any aA t v:=hval0;have hW':=hW;obtain⟨p,q,JY,hV,rfl,hfz,hnd⟩:=hW;have hA:DataW.TrodAll enc prog W 0 (λ_=>true) true Tryz.f4.params.toList args.toList ds p:=JY;rw[params4]at hA hval hwt;obtain⟨v0,vs0,d0,ds0,p0,q0,hargs,rfl,rfl,h0,r0⟩:=trodAll_cons hA;obtain⟨v1,vs1,d1,ds1,p1,q1,rfl,rfl,rfl,h1,r1⟩:=trodAll_cons r0;obtain⟨v2,vs2,d2,ds2,p2,q2,rfl,rfl,rfl,h2,r2⟩:=trodAll_cons r1;obtain⟨rfl,rfl,rfl⟩:=trodAll_nil r2;obtain rfl:args=#[v0,v1,v2]:=by cases args;simp_all
 obtain⟨rfl,rfl⟩:=trodVars_none hV;obtain⟨a0,rfl,rfl,rfl,w0⟩:=open_int underlying3 (hval 0 3 v0 rfl rfl) h0;obtain⟨x1,rfl,hx1⟩:=lw.sN h1 (hval 1 22 v1 rfl rfl) (jZ hwt (j:=1) rfl rfl);obtain⟨o2,rfl,ho2⟩:=lw.Si h2 (hval 2 48 v2 rfl rfl) (jZ hwt (j:=2) rfl rfl);refine(walk a0 x1 o2 W hx1 ho2).mono λe W' ⟨he,dW⟩=>?_
 subst he;exact⟨_,rfl,tX laidOut ah hW' rfl dW rfl underlying4 rfl⟩
theorem facts:joinedFacts Tryz.pinned.checked.prog 4 Tryz.f4 Rows.nodeApartSpec Rows.nodeApartRow=true:=by
 unfold joinedFacts;simp only[Bool.and_eq_true];and_intros;all_goals as_aux_lemma=>kernel_rfl
theorem over:Rows.nodeApartRow.holds Tryz.pinned (OpenSpec.ofChange Rows.nodeApartSpec) :=
 OpenClaim.holds_of_wide 4 Tryz.f4 rfl rfl rfl rfl rfl rfl rfl ⟨rfl,rfl,rfl,rfl,rfl⟩ rfl rfl rfl rfl rfl ah func4 facts
  (of_decide_eq_true ah) (by unfold Func.isWrapper;first|(rw[if_pos (by decide +kernel)];kernel_rfl)|(rw[if_neg (by decide +kernel)];exact⟨rfl,rfl⟩))
  (λos started H enc _=>lifted os started H enc)
theorem proved:Rows.NodeApartSaid:=over
#print axioms proved
end nodeApart
end Go.Proofs.YtllmbcigmimgoaaGreat
