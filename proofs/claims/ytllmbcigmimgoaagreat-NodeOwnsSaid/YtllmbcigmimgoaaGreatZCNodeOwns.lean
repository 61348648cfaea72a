/-
  NodeOwns: the pages of a file are told as far as they are asked for, each of its level. No conditions.
-/
import Derived.Test.YtllmbcigmimgoaaGreatZC11
set_option maxRecDepth 100000
set_option maxHeartbeats 20000000
set_option linter.all false
namespace Go.Proofs.YtllmbcigmimgoaaGreat
open _root_.Go.Proofs.Tryz
open _root_.Go renaming World->acL
open _root_.Go.Obj renaming cells->ach,deferred->adL
open _root_.Go.RowKit renaming Below->acN
open _root_.Go.Value renaming bool->acg
open _root_.Go.World renaming putObj_heap_other->af4
open _root_.List renaming mem_singleton->adf
open _root_.Or renaming inl->ack
namespace nodeOwns
open ChangeShapes WideShapes ChangeAt RowKit Deep
open mgr ft ino po df lw
attribute [local go_sem] Oper.semAt_some
theorem agv {w':acL}{g:Nat}{v0:Value}(hb:aD w' g 4 #[v0])(tmps:Array Value)(h2:tmps[6]?=some (.pointer (some ⟨g,0,none⟩))):(results Tryz.f5 tmps).run prog w'=.ok v0 w':=by
 have g0:w'.cell? ⟨g,0,none⟩=some v0:=hb.cell 0;simp only[results,results5];simp[go_sem,h2,g0]
def Bo (its:List It)(j:Nat):Nat:=its.countP λx=>x.2.2==j
structure OwI (nb lb:Nat)(its:List It)(G:Nat->Prop)(W:acL):Prop where
 cnt:aD W nb 3 #[vi its.length]
 lev:aD W lb 55 #[vi (Bo its 0),vi (Bo its 1),vi (Bo its 2)]
 foot:∀n,G n↔n=nb\/n=lb
structure OwX (nb lb:Nat)(am:Int)(its:List It)(G:Nat->Prop)(W:acL):Prop where
 cnt:∃m:Nat,its.length=m+1/\am=m/\aD W nb 3 #[vi m]
 lev:∃cs,aD W lb 55 cs
 foot:∀n,G n↔n=nb\/n=lb
variable{w0:acL}{nb lb D l:Nat}{am:Int}
theorem aoG (h1:w0.heap.size<=nb/\nb<D/\D<l)(h2:w0.heap.size<=lb/\lb<D):agA w0 D l (OwI nb lb) :=
 ⟨λhj n hn=>((hj.foot n).1 hn).elim (λe=>⟨aa,aa,aa,_,_,e▸hj.cnt⟩) (λe=>⟨aa,aa,aa,_,_,e▸hj.lev⟩),
  λhj hc hn=>⟨hj.cnt.aJ hc (hn _ ((hj.foot _).2 (ack rfl))),hj.lev.aJ hc (hn _ ((hj.foot _).2 (.inr rfl))),hj.foot⟩⟩
theorem aoH (h1:w0.heap.size<=nb/\nb<D/\D<l)(h2:w0.heap.size<=lb/\lb<D):agA w0 D l (OwX nb lb am) :=
 ⟨λhj n hn=>((hj.foot n).1 hn).elim (λe=>by obtain⟨_,_,_,h⟩:=hj.cnt;exact⟨aa,aa,aa,_,_,e▸h⟩) (λe=>by obtain⟨_,h⟩:=hj.lev;exact⟨aa,aa,aa,_,_,e▸h⟩),
  λhj hc hn=>⟨by obtain⟨m,h1,h2,h3⟩:=hj.cnt;exact⟨m,h1,h2,h3.aJ hc (hn _ ((hj.foot _).2 (ack rfl)))⟩,by obtain⟨cs,h⟩:=hj.lev;exact⟨cs,h.aJ hc (hn _ ((hj.foot _).2 (.inr rfl)))⟩,hj.foot⟩⟩
theorem agL (its:List It)(u:It)(j:Nat):Bo (its++[u]) j=Bo its j+if u.2.2=j then 1 else 0:=by
 unfold Bo;rw[List.countP_append,List.countP_singleton];simp
theorem agO (its:List It)(j:Nat):Bo its j<=its.length:=List.countP_le_length
theorem ahL (p:Po)(i:PI.bF):Bo (p.jy i) 0=(p.eO i).length:=by
 have h:=congrArg List.length (p.BR i);rw[List.length_map]at h;rw[<-h];unfold Bo nums;rw[List.length_map,List.countP_eq_length_filter];congr 1
theorem ah5 (p:Po)(i:PI.bF):Bo (p.jy i) 2<=1:=by
 unfold Bo;rw[List.countP_eq_length_filter];have hp:=(ahB p i).filter (λx=>x.2.2==2);have hm:∀x∈(p.jy i).filter (λx=>x.2.2==2),x.1=38/\x.2.2=2:=λx hx=>by
  obtain⟨h1,h2⟩:=List.mem_filter.1 hx;have h2:x.2.2=2:=by simpa using h2
  rcases agN h1 with⟨_,h3,_⟩|⟨rfl,_⟩|⟨a,_,rfl,_⟩|⟨rfl,_⟩;omega;cases h2;cases h2;exact⟨rfl,rfl⟩
 generalize (p.jy i).filter (λx=>x.2.2==2)=l at*;match l,hp,hm with
 |[],_,_=>exact Nat.zero_le _
 |[_],_,_=>exact aj
 |a::b::t,hp,hm =>
  have h1:=hm a (List.mem_cons_self ..);have h2:=hm b (List.mem_cons_of_mem _ (List.mem_cons_self ..));have h3:=(List.pairwise_cons.1 hp).1 b (List.mem_cons_self ..) (h1.2.trans h2.2.symm);omega
theorem ag9 {its:List It}{G:Nat->Prop}{W:acL}(h:OwI nb lb its G W)(hne:nb≠lb)(u:It){j:Nat}(hj:u.2.2=j)(h2:j<=2) :
  OwI nb lb (its++[u]) G ((W.setCell ⟨lb,j,none⟩ (vi ((Bo its j:Int)+1))).setCell ⟨nb,0,none⟩ (vi ((its.length:Int)+1)))/\aP G W ((W.setCell ⟨lb,j,none⟩ (vi ((Bo its j:Int)+1))).setCell ⟨nb,0,none⟩ (vi ((its.length:Int)+1))):=by
 have h1:=(h.cnt.far (p:=⟨lb,j,none⟩) hne (vi ((Bo its j:Int)+1))).bB 0 (vi ((its.length:Int)+1));have h3:=(h.lev.bB j (vi ((Bo its j:Int)+1))).far (p:=⟨nb,0,none⟩) (λe=>hne e.symm) (vi ((its.length:Int)+1));refine⟨⟨by rw[List.length_append];exact h1,?_,h.foot⟩,((aP.refl G W).setCell (p:=⟨lb,j,none⟩) (ack ((h.foot _).2 (.inr rfl))) _).setCell (p:=⟨nb,0,none⟩) (ack ((h.foot _).2 (ack rfl))) _⟩;rw[agL,agL,agL,hj];rcases (by omega:j=0\/j=1\/j=2) with rfl|rfl|rfl;exact h3;exact h3;exact h3
theorem aj2 {its:List It}{G:Nat->Prop}{W:acL}(h:OwI nb lb its G W)(u:It)(ha:am=(its.length:Int)):OwX nb lb am (its++[u]) G W :=
 ⟨⟨its.length,ai,ha,h.cnt⟩,⟨_,h.lev⟩,h.foot⟩
theorem walk (n:Int)(y:qB eQ)(most:Int)(w:acL)(hy:fe w.heap.size w y.a y.l):Calls prog 5 #[vi n,y.v,vi most] w λe w'=>e=.returned (acg true)/\acN w.heap.size w w':=by
 obtain⟨ya,l,yc⟩:=y;have HL:=az hy;dsimp only at HL;change Calls prog 5 #[vi n,.slice ya l.length yc,vi most] w _;clear hy;refine callsIn_wide.1 (callsIn_of_wp_marks (F:=Fence.wide) (n:=6) func5 rfl trivial (wpIn_wide.2 ?_) rfl);simp only[ntmps5,List.size_toArray,List.length_cons,List.length_nil,Nat.reduceAdd,Nat.reduceSub,Array.replicate_succ,Array.replicate_zero,List.push_toArray,List.append_toArray,List.nil_append,List.cons_append];go_upto_region 1 with fail;have Ob:Hid (aD ((w.alloc (ach #[vi most] 3)).alloc (ach #[acg false] 4)) w.heap.size 3 #[vi most]/\aD ((w.alloc (ach #[vi most] 3)).alloc (ach #[acg false] 4)) (w.heap.size+1) 4 #[acg false]/\acN w.heap.size w ((w.alloc (ach #[vi most] 3)).alloc (ach #[acg false] 4))):=az (by
  have h:=aD.new (w.alloc (ach #[vi most] 3)) 4 #[acg false]
  rw[size_alloc]at h
  exact⟨(aD.new w _ _).alloc _,h,ax.alloc ai _⟩)
 change Code.wp _ _ _ _ ((w.alloc (ach #[vi most] 3)).alloc (ach #[acg false] 4));generalize (w.alloc (ach #[vi most] 3)).alloc (ach #[acg false] 4)=v at*;obtain⟨mb,hmb⟩:∃mb,mb=w.heap.size:=⟨_,rfl⟩;rw[<-hmb]at Ob ⊢;obtain⟨rb,hrb⟩:∃rb,rb=mb+1:=⟨_,rfl⟩;rw[<-hrb]at Ob ⊢;have HMR:Hid (mb=w.heap.size/\rb=mb+1):=az ⟨hmb,hrb⟩;have uz:Hid (acN mb w v):=az Ob.o.2.2;clear hmb hrb;have Zq:Hid (fe v.heap.size v ya l):=az ((HL.o.old (by rw[<-HMR.o.1];exact uz.o)).up (by have:=uz.o.size;omega));clear HL;go_wp2_with fail;refine(ru yc Zq.o).mono ?_;rintro e2 w2 ⟨t,rfl,rfl,hs⟩
 have HS:=az hs;clear hs;cases t;rotate_left
 ·go_wp2_with fail;refine(jB _).mono ?_;rintro e6 w6 ⟨rfl,hb6⟩;have uC:Hid (acN mb w w6):=az (uz.o.trans (hb6.mono (by have h1:=uz.o.size;have h2:=HMR.o.1;omega)));have GM:=az (Ob.o.2.1.old hb6);have z0:w6.cell? ⟨rb,0,none⟩=some (acg false):=GM.o.cell 0;have z1:=GM.o.frozen 0;clear hb6;go_wp2_with fail;have hr:=GM.o.bB 0 (acg true);have hb:acN mb w (w6.setCell ⟨rb,0,none⟩ (acg true)):=uC.o.setCell (p:=⟨rb,0,none⟩) (by show mb<=rb;have:=HMR.o;omega) _;exact K9 [] _ List.nodup_nil (λ_ h=>by cases h) (λW hW=>⟨agv (hr.aJ hW (λh=>by cases h)) _ rfl,rfl,by rw[<-HMR.o.1];exact hb.trans (hW.dX (λn _ e=>by cases e) (by have h1:=hb.size;have h2:=HMR.o.1;omega))⟩)
 have HN:=az (HS.o rfl);clear HS;go_wp2_with fail;refine(vo w2 n ya l yc w2 ak Zq.o HN.o).mono ?_;rintro e2 w3 ⟨q,K,p,is,Fs,D,a,e,rfl,hon⟩;have zJ:=az hon;have H1:=az (fu q is D);clear hon Zq HN;go_upto_region 4 with (refine fU (C:=aO q is D) rfl rfl (.tmp 7) (.tmp 22) rfl rfl rfl rfl H1.o ?_;intro w4 hb4 hl4;have nJ:=az hb4;have uf:=az hl4;clear hb4 hl4);have iH:Hid (¬KQ K q w3.heap.size):=az (VX zJ.o.run.pq aj);have pI:Hid (acN w2.heap.size w2 w4):=az (zJ.o.dW.trans (uf.o.mono zJ.o.dW.size));have Sm:=az (zJ.o.old uf.o)
 have HM4:Hid (aD w4 mb 3 #[vi most]/\aD w4 rb 4 #[acg false]):=az ⟨Ob.o.1.old pI.o,Ob.o.2.1.old pI.o⟩;have HNM:Hid (¬KQ K q mb/\¬KQ K q rb):=az ⟨λe=>by have:=Mq zJ.o.run.pq _ e;have:=Ob.o.1.lt;omega,λe=>by have:=Mq zJ.o.run.pq _ e;have:=Ob.o.2.1.lt;omega⟩;generalize w3.heap.size=x at*;obtain⟨c,hc,_⟩:=Sm.o.run.pq.iN;have HC:=az hc;have FE:Hid (c<w4.heap.size/\x≠c/\mb≠c/\rb≠c):=az (by
  have h1:=Sm.o.run.pq.pK hc
  exact⟨Sm.o.run.pq.lt _ h1.1,λe=>iH.o (ack (e▸h1.1)),λe=>HNM.o.1 (ack (e▸h1.1)),λe=>HNM.o.2 (ack (e▸h1.1))⟩)
 clear hc zJ uf H1 Ob;go_upto_region 8 with fail;have HN5:Hid (aD ((w4.alloc (ach #[vi 0] 3)).alloc (ach #[vi 0,vi 0,vi 0] 55)) w4.heap.size 3 #[vi 0]/\aD ((w4.alloc (ach #[vi 0] 3)).alloc (ach #[vi 0,vi 0,vi 0] 55)) (w4.heap.size+1) 55 #[vi 0,vi 0,vi 0]/\acN w4.heap.size w4 ((w4.alloc (ach #[vi 0] 3)).alloc (ach #[vi 0,vi 0,vi 0] 55))):=az (by
  have h:=aD.new (w4.alloc (ach #[vi 0] 3)) 55 #[vi 0,vi 0,vi 0]
  rw[size_alloc]at h
  exact⟨(aD.new w4 _ _).alloc _,h,ax.alloc ai _⟩)
 change Code.wp _ _ _ _ ((w4.alloc (ach #[vi 0] 3)).alloc (ach #[vi 0,vi 0,vi 0] 55));generalize (w4.alloc (ach #[vi 0] 3)).alloc (ach #[vi 0,vi 0,vi 0] 55)=w5 at*;obtain⟨nb,hnb⟩:∃nb,nb=w4.heap.size:=⟨_,rfl⟩;have qG:=az HN5.o.2.2;rw[<-hnb]at HN5 ⊢;obtain⟨lb,hlb⟩:∃lb,lb=nb+1:=⟨_,rfl⟩;rw[<-hlb]at HN5 ⊢;have XP:Hid (nb=w4.heap.size/\lb=nb+1):=az ⟨hnb,hlb⟩;clear hnb hlb;obtain⟨kd,ln,sz,d0,d1,d2,d3,d4,d5,sg,db,hik⟩:=oW is 0 (Sm.o.run.fl.fam.six 0);have HIK:=az hik;have hi:=wP (q:=q) (D:=D) (x:=x) (by omega:0<3) hik w5 (nJ.o.old qG.o);simp only[Nat.zero_mul,Nat.add_zero,Nat.reduceAdd]at hi
 obtain⟨x0,x1,x2,x3,x4,x5,x6,x7,x8,x9,JW,x11⟩:=hi;have HOW:=az (Qg (w:=w5) q ⟨kd,ln,sz,[d0,d1,d2,d3,d4,d5],sg,db⟩ rfl);simp only[dS,j4]at HOW;have q1:∀(W:acL) (a b:Nat),(binOp .eql 50 (.func (.func 36) #[] #[ptr a,ptr b]) .nilFunc).run prog W=.ok (acg false) W:=λW a b=>agR W _ _ _
 clear hik;go_wp2_with fail;refine HOW.o.mono ?_;rintro e6 w6 ⟨rfl,hw6⟩;have uC:Hid (acN w5.heap.size w5 w6):=az (by rw[hw6];exact ax.alloc ai _);have HP6:Hid (aD w6 w5.heap.size 26 #[ptr q]):=az (by rw[hw6];exact(aD.new w5 _ _).alloc _);have HI6:Hid (aD w6 (w5.heap.size+1) 29 (j4 ⟨kd,ln,sz,[d0,d1,d2,d3,d4,d5],sg,db⟩)):=az (by rw[hw6];have h:=aD.new (w5.alloc (ach #[ptr q] 26)) 29 (j4 ⟨kd,ln,sz,[d0,d1,d2,d3,d4,d5],sg,db⟩);rwa[size_alloc]at h);have aj3:Hid (acN w4.heap.size w4 w6/\aD w6 nb 3 #[vi 0]/\aD w6 lb 55 #[vi 0,vi 0,vi 0]):=az ⟨qG.o.trans (uC.o.mono qG.o.size),HN5.o.1.old uC.o,HN5.o.2.1.old uC.o⟩
 clear hw6 uC HOW x0 x1 x2 x3 x4 x5 x6 x7 x8 x9 JW x11;generalize w5.heap.size=pb at*;go_wp2_with fail;have HWF:Hid (p.wf ⟨kd,ln,sz,[d0,d1,d2,d3,d4,d5],sg,db⟩):=az (by rw[<-HIK.o];exact Sm.o.run.fl.fam.wf 0);have GM:Hid (gD c w4 w6):=az (gD.of_below aj3.o.1);have HN6:Hid (aD w6 nb 3 #[vi 0]/\aD w6 lb 55 #[vi 0,vi 0,vi 0]):=az aj3.o.2;have HAM:Hid (∃am:Int,0<=am/\am<100/\∀W,Calls prog 16 #[vi most,vi 100] W λe w'=>e=.returned (vi am)/\w'=W):=az ⟨most%100,aa,aa,λW=>mf most 100 W aa aa⟩;obtain⟨am,aoJ,aoK,alN⟩:=HAM.o;have HMA:=az alN
 obtain⟨IT,hIT⟩:∃IT,IT=p.jy ⟨kd,ln,sz,[d0,d1,d2,d3,d4,d5],sg,db⟩:=⟨_,rfl⟩;have HIT:=az hIT;have je:Hid (nb<lb/\lb<w6.heap.size/\w4.heap.size<=nb):=az (by have h1:=HN6.o.2.lt;have h2:=XP.o;omega);clear q1 HN5 qG aj3 HAM aoJ aoK alN hIT;refine(wpIn_wide (n:=6)).1 ?_;refine agy (n:=6) aa (gf:=36) (lb:=#[ptr pb,ptr (pb+1)]) rfl (dI func36 ah rfl)
  0 (λ_ _ h=>h) (λW=>gD c w4 W/\∃m:Nat,aD W nb 3 #[vi m]/\((m=IT.length/\aD W lb 55 #[vi (Bo IT 0),vi (Bo IT 1),vi (Bo IT 2)])\/(m+1<=IT.length/\am=m))) ?hc ?hd
 case hc =>
  intro fn;generalize hrl:ja fn _ _ _ _ _ .ready none=rl at*;have Wt:Hid (acN w6.heap.size w6 ((w6.alloc (adL (some []))).alloc (.loop rl))):=az (ax.alloc ai _);have hl7:((w6.alloc (adL (some []))).alloc (.loop rl)).heap[w6.heap.size+1]?=some (.loop rl):=by
   have h:=acL.alloc_heap_new (w6.alloc (adL (some []))) (.loop rl);rwa[acL.size_alloc]at h
  have hd7:((w6.alloc (adL (some []))).alloc (.loop rl)).heap[w6.heap.size]?=some (adL (some [])):=(acN.heap_alloc _ _ _ ai).trans (acL.alloc_heap_new w6 _);have HVI:Hid (agA w4 w6.heap.size (w6.heap.size+1) (OwI nb lb)):=az (aoG (by have:=je.o;omega) (by have:=je.o;omega));have HVX:Hid (agA w4 w6.heap.size (w6.heap.size+1) (OwX nb lb am)):=az (aoH (by have:=je.o;omega) (by have:=je.o;omega));have Wd:Hid (ahT w4 c (w6.heap.size+1) (.loop rl) (λo=>o=.loop {rl with state:=.done,pending:=some (.exit 0)}) (OwI nb lb) (OwX nb lb am)):=az (by
   intro its u G W hn hu hrd hI hl
   refine(ag6 (rl:=rl) (R:=λW'=>aP (λm=>G m\/m=w6.heap.size+1) W W'/\(∃G',OwI nb lb (its++[u]) G' W'/\∀m,G' m->G m\/W.heap.size<=m)/\W'.heap[w6.heap.size+1]?=some (.loop rl))
    (Rx:=λcd W'=>aP (λm=>G m\/m=w6.heap.size+1) W W'/\(∃G',OwX nb lb am (its++[u]) G' W'/\∀m,G' m->G m\/W.heap.size<=m)/\W'.heap[w6.heap.size+1]?=some (.loop {rl with state:=.done,pending:=some (.exit 0)})/\cd=.exit 0) hl (by rw[<-hrl];rfl) (by rw[<-hrl];rfl) (by rw[<-hrl];rfl) ?_).mono ?_
   rotate_left
   rintro e W' (⟨rfl,h1,h2,h3⟩|⟨rfl,cd,h1,h2,h3,rfl⟩)
   exact⟨h1,ack ⟨rfl,h3,h2⟩⟩
   exact⟨h1,.inr ⟨rfl,_,rfl,h3,h2⟩⟩
   have HL:=az hl
   have ig:Hid (w6.heap.size+1<W.heap.size):=az (eT hl)
   have HI:=az hI
   have HNI:=az hn
   have HUL:=az hu
   have HMW:=az (HM4.o.1.aJ hrd.1 (by have:=FE.o;omega))
   have aoL:Hid (mb≠w6.heap.size+1):=az (by have h1:=HM4.o.1.lt;have h2:=je.o;omega)
   clear hl hI hn hu hrd hl7 hd7 Wt
   subst hrl
   unfold ja at HL ⊢
   dsimp only at HL ⊢
   gi_wp2
   refine⟨HL.o,?_⟩
   generalize Dx:Obj.loop {state:=LoopState.busy,pending:=none,fn:=fn,tmps:=_,params:=_,assign:=_,body:=_,defers:=_}=ob
   have HW1:Hid (aP (λm=>m=w6.heap.size+1) W (W.putObj (w6.heap.size+1) ob)):=az ⟨rfl,rfl,rfl,by simp[acL.putObj],λm hm e=>af4 (λe2=>e e2)⟩
   have yK:Hid ((W.putObj (w6.heap.size+1) ob).heap[w6.heap.size+1]?=some ob):=az (acL.putObj_heap_same ig.o)
   have HI1:=az (HVI.o.aJ HI.o HW1.o (λn hn e=>(HVI.o.lt HI.o n hn).2.2.1 e))
   have Ob:=az (HMW.o.aJ HW1.o aoL.o)
   clear HMW HI Dx
   generalize W.putObj (w6.heap.size+1) ob=W1 at*
   have c0:W1.cell? ⟨nb,0,none⟩=some (vi its.length):=HI1.o.cnt.cell 0
   have c1:W1.cell? ⟨mb,0,none⟩=some (vi most):=Ob.o.cell 0
   obtain⟨un,up,ul⟩:=u
   have HID:Hid (OwI nb lb its G W1.drew):=az (HVI.o.aJ HI1.o (aP.of_below au) (H:=λ_=>False) (λ_ _ h=>h))
   have HCD:Hid (∀{F:Nat->Prop},aP F W1 W1.drew):=az (aP.of_below au)
   by_cases hb:(its.length:Int)=am
   ·have HE:=az (agS HVI.o HVX.o HI1.o HW1.o HCD.o yK.o (aj2 HID.o (un,up,ul) hb.symm))
    gi_upto_region 13 with fail
    gi_region_with (refine⟨trivial,(Dn (HMA.o _)).mono ?_⟩;rintro e7 w7 ⟨rfl,rfl⟩)
    all_goals
     clear c0 c1
     gi_wp2
     exact⟨HE.o.1,.inr ⟨0,rfl,(HE.o.2 _).1,⟨_,(HE.o.2 _).2.1,λm e=>ack e⟩,(HE.o.2 _).2.2,rfl⟩⟩
   have zx:Hid (nb≠lb):=az (by have:=je.o;omega)
   have ne1:¬nb=lb:=zx.o
   have ne2:¬lb=nb:=λe=>zx.o e.symm
   have r2:IntKind.i64.wrap ((its.length:Int)+1)=(its.length:Int)+1:=IntWalk.i64_in _ (by have:=HNI.o;omega)
   have z0:=HI1.o.cnt.frozen 0
   rcases (by have h:ul<=2:=HUL.o;omega:ul=0\/ul=1\/ul=2) with rfl|rfl|rfl
   ·have HS:=az (ag9 HI1.o zx.o (un,up,0) (j:=0) rfl aa)
    have HE:=az (agS HVI.o HVI.o HI1.o HW1.o (HS.o.2.trans (aP.of_below au) (λ_ _ e=>e)) yK.o (HVI.o.aJ HS.o.1 (aP.of_below au) (H:=λ_=>False) (λ_ _ h=>h)))
    have l0:W1.cell? ⟨lb,0,none⟩=some (vi (Bo its 0)):=HI1.o.lev.cell 0
    have l1:=HI1.o.lev.frozen 0
    have r1:IntKind.i64.wrap ((Bo its 0:Int)+1)=(Bo its 0:Int)+1:=IntWalk.i64_in _ (by have:=HNI.o;have:=agO its 0;omega)
    gi_upto_region 13 with fail
    gi_region_with (refine⟨trivial,(Dn (HMA.o _)).mono ?_⟩;rintro e7 w7 ⟨rfl,rfl⟩)
    all_goals
     gi_wp2
     exact⟨HE.o.1,(HE.o.2 _).1,⟨_,(HE.o.2 _).2.1,λm e=>ack e⟩,(HE.o.2 _).2.2⟩
   ·have HS:=az (ag9 HI1.o zx.o (un,up,1) (j:=1) rfl aa)
    have HE:=az (agS HVI.o HVI.o HI1.o HW1.o (HS.o.2.trans (aP.of_below au) (λ_ _ e=>e)) yK.o (HVI.o.aJ HS.o.1 (aP.of_below au) (H:=λ_=>False) (λ_ _ h=>h)))
    have l0:W1.cell? ⟨lb,1,none⟩=some (vi (Bo its 1)):=HI1.o.lev.cell 1
    have l1:=HI1.o.lev.frozen 1
    have r1:IntKind.i64.wrap ((Bo its 1:Int)+1)=(Bo its 1:Int)+1:=IntWalk.i64_in _ (by have:=HNI.o;have:=agO its 1;omega)
    gi_upto_region 13 with fail
    gi_region_with (refine⟨trivial,(Dn (HMA.o _)).mono ?_⟩;rintro e7 w7 ⟨rfl,rfl⟩)
    all_goals
     gi_wp2
     exact⟨HE.o.1,(HE.o.2 _).1,⟨_,(HE.o.2 _).2.1,λm e=>ack e⟩,(HE.o.2 _).2.2⟩
   have HS:=az (ag9 HI1.o zx.o (un,up,2) (j:=2) rfl aa)
   have HE:=az (agS HVI.o HVI.o HI1.o HW1.o (HS.o.2.trans (aP.of_below au) (λ_ _ e=>e)) yK.o (HVI.o.aJ HS.o.1 (aP.of_below au) (H:=λ_=>False) (λ_ _ h=>h)))
   have l0:W1.cell? ⟨lb,2,none⟩=some (vi (Bo its 2)):=HI1.o.lev.cell 2
   have l1:=HI1.o.lev.frozen 2
   have r1:IntKind.i64.wrap ((Bo its 2:Int)+1)=(Bo its 2:Int)+1:=IntWalk.i64_in _ (by have:=HNI.o;have:=agO its 2;omega)
   gi_upto_region 13 with fail
   gi_region_with (refine⟨trivial,(Dn (HMA.o _)).mono ?_⟩;rintro e7 w7 ⟨rfl,rfl⟩)
   all_goals
    gi_wp2
    exact⟨HE.o.1,(HE.o.2 _).1,⟨_,(HE.o.2 _).2.1,λm e=>ack e⟩,(HE.o.2 _).2.2⟩)
  have hI0:OwI nb lb [] (λn=>n=nb\/n=lb) w6:=⟨HN6.o.1,HN6.o.2,λ_=>Iff.rfl⟩;have hI7:=HVI.o.aJ hI0 (aP.of_below Wt.o) (H:=λ_=>False) (λ_ _ h=>h);refine(agJ Sm.o.run.pq HC.o HWF.o HVI.o HVX.o ⟨by have:=je.o;omega,aa⟩ Wd.o (GM.o.trans (gD.of_below Wt.o)) (HP6.o.old Wt.o) (HI6.o.old Wt.o) hI7 hl7 hd7).mono ?_;rintro e W ⟨rfl,h1,h2,h3,⟨h4,G',hA⟩|⟨its,ro2,G',hpre,rfl,h4,hA⟩⟩;exact⟨⟨_,rfl⟩,h3,⟨h1,IT.length,by rw[HIT.o];exact hA.cnt,ack ⟨rfl,by rw[HIT.o];exact hA.lev⟩⟩,ack h4⟩;obtain⟨m,m1,m2,m3⟩:=hA.cnt;exact⟨⟨_,rfl⟩,h3,⟨h1,m,m3,.inr ⟨by rw[HIT.o,<-m1];exact hpre.length_le,m2⟩⟩,.inr (by rw[h4,<-hrl];rfl)⟩
 case hd =>
 intro W o r hR hD hl;obtain⟨h1,m,h2,h3⟩:=hR;have hp:aP (λm=>m=w6.heap.size+1) W (W.putObj (w6.heap.size+1) o):=⟨rfl,rfl,rfl,by simp[acL.putObj],λm hm e=>af4 (λe2=>e e2)⟩;have bK:Hid (gD c w4 (W.putObj (w6.heap.size+1) o)):=az (h1.far (hp.mono λm _ e=>by have:=je.o;omega) FE.o.1);have HN7:Hid (aD (W.putObj (w6.heap.size+1) o) nb 3 #[vi m]):=az (h2.aJ hp (by have:=je.o;omega));have alP:Hid ((m=IT.length/\aD (W.putObj (w6.heap.size+1) o) lb 55 #[vi (Bo IT 0),vi (Bo IT 1),vi (Bo IT 2)])\/(m+1<=IT.length/\am=m)):=az (h3.imp (λe=>⟨e.1,e.2.aJ hp (by have:=je.o;omega)⟩) id)
 have HMK:Hid ((W.putObj (w6.heap.size+1) o).heap[w6.heap.size]?=some (adL (some []))):=az ((af4 aa).trans hD);clear h1 h2 h3 hp hD hl;dsimp only;generalize W.putObj (w6.heap.size+1) o=W2 at*;have ag3:=az (Sm.o.go (bM.pM Sm.o.run.pq HC.o bK.o));have BG:=az (nJ.o.aJ bK.o.1 (by have:=FE.o;omega));have HM7:Hid (aD W2 mb 3 #[vi most]/\aD W2 rb 4 #[acg false]):=az ⟨HM4.o.1.aJ bK.o.1 (by have:=FE.o;omega),HM4.o.2.aJ bK.o.1 (by have:=FE.o;omega)⟩;obtain⟨hdf,hds⟩:=ag3.o.run.df 0 aa;obtain⟨hN,_⟩:=jo.aft (R:=D 0) ⟨hdf,hds⟩
 have zQ:=az (df.mi hdf);obtain⟨s1,yX,N1,xY,zB,zC,hD0⟩:∃s1 yX N1 xY zB zC,D 0=⟨s1,yX,N1,xY,zB,zC⟩:=⟨_,_,_,_,_,_,rfl⟩;have hcl:=wQ (by omega:0<3) hD0 W2 BG.o;rw[hD0]at hds hN zQ;unfold qm at zQ;dsimp only at hds hN zQ;rw[<-hds]at zQ;simp only[Nat.zero_mul,Nat.add_zero,Nat.reduceAdd]at hcl;obtain⟨x0,x1,x2,x3⟩:=hcl;obtain⟨T,hT⟩:∃T,T=aH (Fs 0).z:=⟨_,rfl⟩;rw[<-hT]at zQ;have HIL:Hid (IT.length=T):=az (by rw[HIT.o,<-HIK.o,hT];exact Sm.o.run.fl.takes 0);have HZ0:Hid (Bo IT 0=N1/\Bo IT 2<=1):=az (by
  rw[HIT.o,<-HIK.o,hN,List.length_map,<-Sm.o.run.fl.pages 0]
  exact⟨ahL p (is 0),ah5 p (is 0)⟩)
 clear hdf hds hN hT;have HDD:=az hD0;clear hD0;go_wp2_with fail;refine zQ.o.mono ?_;rintro e3 w8 ⟨rfl,wT⟩;have wX:=az wT;have Dt:=az (HN7.o.old wT);have HM8:Hid (aD w8 mb 3 #[vi most]/\aD w8 rb 4 #[acg false]):=az ⟨HM7.o.1.old wT,HM7.o.2.old wT⟩;have zP:=az (BG.o.old wT);clear wT x0 x1 x2 x3 zQ;have n0:w8.cell? ⟨nb,0,none⟩=some (vi m):=Dt.o.cell 0;have m0:w8.cell? ⟨mb,0,none⟩=some (vi most):=HM8.o.1.cell 0;have uG:Hid (w8.drew.cell? ⟨nb,0,none⟩=some (vi m)/\w8.drew.cell? ⟨mb,0,none⟩=some (vi most)):=az ⟨n0,m0⟩;have HBF:Hid (acN w.heap.size w w8):=az (by
  have h1:=uz.o
  have h2:=HMR.o.1
  have h4:acN w.heap.size w w2:=by rw[<-h2];exact h1
  have h3:=ag3.o.dW
  exact(h4.trans (h3.mono h4.size)).trans (wX.o.mono (h4.trans (h3.mono h4.size)).size))
 have ag4:Hid (w8.heap[w6.heap.size]?=some (adL (some []))):=az ((wX.o.block _ (eT HMK.o)).trans HMK.o);have aht:Hid (rb<w6.heap.size/\w.heap.size<=w6.heap.size):=az (by
  have h1:=HM4.o.2.lt
  have h2:=je.o
  have h3:=HMR.o
  omega)
 have CY:Hid ((m=T/\aD w8 lb 55 #[vi (Bo IT 0),vi (Bo IT 1),vi (Bo IT 2)])\/(m+1<=T/\am=m)):=az (by
  rw[<-HIL.o]
  exact alP.o.imp (λe=>⟨e.1,e.2.old wX.o⟩) id)
 clear n0 m0 alP HMK HM7 HN7 wX ag3 BG;go_upto_region 19 with fail;go_region_held3 (λW'=>W'.cell? ⟨nb,0,none⟩=some (vi m)/\W'.cell? ⟨mb,0,none⟩=some (vi most))
  (with_reducible (first|exact uG.o|fail))
  ((go_at_call 16;refine(HMA.o _).mono ?_;rintro e9 w9 ⟨rfl,rfl⟩))
 have n0:w8.cell? ⟨nb,0,none⟩=some (vi m):=Dt.o.cell 0;by_cases hlt:(m:Int)<am
 ·obtain⟨hm,hlv⟩:m=T/\aD w8 lb 55 #[vi (Bo IT 0),vi (Bo IT 1),vi (Bo IT 2)]:=by
   rcases CY.o with h|h;exact h;exact absurd hlt aa
  subst hm;have l0:w8.cell? ⟨lb,0,none⟩=some (vi (Bo IT 0)):=hlv.cell 0;have l2:w8.cell? ⟨lb,2,none⟩=some (vi (Bo IT 2)):=hlv.cell 2;obtain⟨_,_,x2,_⟩:=wQ (by omega:0<3) HDD.o w8 zP.o;simp only[Nat.zero_mul,Nat.add_zero,Nat.reduceAdd]at x2;obtain⟨hz0,hz2⟩:=HZ0.o;rw[hz0]at l0;have k2:(Bo IT 2:Int)<2:=aa;clear hlv hz0 hz2 CY HZ0;generalize Bo IT 2=c2 at*;go_wp2_with fail;refine(jB _).mono ?_;rintro e9 w9 ⟨rfl,ME⟩;have Y3:=az ME;have HR9:=az (HM8.o.2.old (au.trans ME));have z0:w9.cell? ⟨rb,0,none⟩=some (acg false):=HR9.o.cell 0;have z1:=HR9.o.frozen 0
  clear ME;go_wp2_with fail;have hr:=HR9.o.bB 0 (acg true);have hb:acN w.heap.size w (w9.setCell ⟨rb,0,none⟩ (acg true)):=(HBF.o.trans ((au.trans Y3.o).mono HBF.o.size)).setCell (p:=⟨rb,0,none⟩) (by show w.heap.size<=rb;have:=HMR.o;omega) _;have hm:(w9.setCell ⟨rb,0,none⟩ (acg true)).heap[w6.heap.size]?=some (adL (some [])):=(acN.heap_setCell _ _ _ _ (λe=>by have h:=aht.o;dsimp only at e;omega)).trans (((au.trans Y3.o).block _ (eT ag4.o)).trans ag4.o);exact K9 [w6.heap.size] _ (List.nodup_cons.2 ⟨ai,List.nodup_nil⟩) (λE hE=>by rw[adf.1 hE];exact hm) (λW hW=>⟨agv (hr.aJ hW (λh=>by have:=aht.o;have:=adf.1 h;omega)) _ rfl,rfl,hb.trans (hW.dX (λn _ e=>by have:=aht.o;have h:=adf.1 e;omega) hb.size)⟩)
 have hle:(m:Int)<=(T:Int):=by
  rcases CY.o with h|h;omega;omega
 go_wp2_with fail;refine(jB _).mono ?_;rintro e9 w9 ⟨rfl,ME⟩;have Y3:=az ME;have HR9:=az (HM8.o.2.old (au.trans ME));have z0:w9.cell? ⟨rb,0,none⟩=some (acg false):=HR9.o.cell 0;have z1:=HR9.o.frozen 0;clear ME;go_wp2_with fail;have hr:=HR9.o.bB 0 (acg true);have hb:acN w.heap.size w (w9.setCell ⟨rb,0,none⟩ (acg true)):=(HBF.o.trans ((au.trans Y3.o).mono HBF.o.size)).setCell (p:=⟨rb,0,none⟩) (by show w.heap.size<=rb;have:=HMR.o;omega) _;have hm:(w9.setCell ⟨rb,0,none⟩ (acg true)).heap[w6.heap.size]?=some (adL (some [])):=(acN.heap_setCell _ _ _ _ (λe=>by have h:=aht.o;dsimp only at e;omega)).trans (((au.trans Y3.o).block _ (eT ag4.o)).trans ag4.o)
 exact K9 [w6.heap.size] _ (List.nodup_cons.2 ⟨ai,List.nodup_nil⟩) (λE hE=>by rw[adf.1 hE];exact hm) (λW hW=>⟨agv (hr.aJ hW (λh=>by have:=aht.o;have:=adf.1 h;omega)) _ rfl,rfl,hb.trans (hW.dX (λn _ e=>by have:=aht.o;have h:=adf.1 e;omega) hb.size)⟩)
theorem lifted (os:Os)(started:os.Started)(H:Type)(enc:TypeId×Value->H) :
  ReturnsInHanded {} checked os 5 .any (Rows.nodeOwnsSpec.pre6 enc prog Tryz.f5 Rows.nodeOwnsRow.domain false) (Rows.nodeOwnsSpec.post enc prog Tryz.f5 false true false false):=by
 refine returnsInHanded_of_change_sized (C:=checked) own started ah func5
  (ChangeSpec.witness6 (enc:=enc) (C:=checked) false ⟨#[],#[.int .i64 0,.slice none 0 0,.int .i64 0],[]⟩ 8 ah ah ah ah) ?_
 intro W aA args ds gs before hval0 hW hcnd hwt _;have hval:∀(j:Nat) t v,Tryz.f5.params[j]?=some t->args[j]?=some v->Value.okWide prog W .any aA t v:=hval0;have hW':=hW;obtain⟨p,q,JY,hV,rfl,hfz,hnd⟩:=hW;have hA:DataW.TrodAll enc prog W 0 (λ_=>true) true Tryz.f5.params.toList args.toList ds p:=JY;rw[params5]at hA hval hwt;obtain⟨v0,vs0,d0,ds0,p0,q0,hargs,rfl,rfl,h0,r0⟩:=trodAll_cons hA;obtain⟨v1,vs1,d1,ds1,p1,q1,rfl,rfl,rfl,h1,r1⟩:=trodAll_cons r0;obtain⟨v2,vs2,d2,ds2,p2,q2,rfl,rfl,rfl,h2,r2⟩:=trodAll_cons r1;obtain⟨rfl,rfl,rfl⟩:=trodAll_nil r2;obtain rfl:args=#[v0,v1,v2]:=by cases args;simp_all
 obtain⟨rfl,rfl⟩:=trodVars_none hV;obtain⟨a0,rfl,rfl,rfl,w0⟩:=open_int underlying3 (hval 0 3 v0 rfl rfl) h0;obtain⟨x1,rfl,hx1⟩:=lw.sN h1 (hval 1 22 v1 rfl rfl) (jZ hwt (j:=1) rfl rfl);obtain⟨a2,rfl,rfl,rfl,w2⟩:=open_int underlying3 (hval 2 3 v2 rfl rfl) h2;refine(walk a0 x1 a2 W hx1).mono λe W' ⟨he,dW⟩=>?_
 subst he;exact⟨_,rfl,tX laidOut ah hW' rfl dW rfl underlying4 rfl⟩
theorem facts:joinedFacts Tryz.pinned.checked.prog 5 Tryz.f5 Rows.nodeOwnsSpec Rows.nodeOwnsRow=true:=by
 unfold joinedFacts;simp only[Bool.and_eq_true];and_intros;all_goals as_aux_lemma=>kernel_rfl
theorem over:Rows.nodeOwnsRow.holds Tryz.pinned (OpenSpec.ofChange Rows.nodeOwnsSpec) :=
 OpenClaim.holds_of_wide 5 Tryz.f5 rfl rfl rfl rfl rfl rfl rfl ⟨rfl,rfl,rfl,rfl,rfl⟩ rfl rfl rfl rfl rfl ah func5 facts
  (of_decide_eq_true ah) (by unfold Func.isWrapper;first|(rw[if_pos (by decide +kernel)];kernel_rfl)|(rw[if_neg (by decide +kernel)];exact⟨rfl,rfl⟩))
  (λos started H enc _=>lifted os started H enc)
theorem proved:Rows.NodeOwnsSaid:=over
#print axioms proved
end nodeOwns
end Go.Proofs.YtllmbcigmimgoaaGreat
