/-
  Lemmas for a law's proof, put together from several texts. No conditions of their own.
-/
import Derived.Test.YtllmbcigmimgoaaGreatZB09
import Derived.Deep.CutRange
import Derived.Deep.LoopGhost
import Derived.Lib.SliceRun
set_option maxRecDepth 100000
set_option maxHeartbeats 20000000
set_option linter.all false
namespace Go.Proofs.YtllmbcigmimgoaaGreat
open _root_.Go.Proofs.Tryz
open _root_.Bool renaming eq_iff_iff->ae4
open _root_.Classical renaming byContradiction->ad2
open _root_.Go renaming World->acL,Value->acK
open _root_.Go.IntKind renaming i64->adk
open _root_.Go.IntWalk renaming i64_in->adl
open _root_.Go.RowKit renaming Below->acN
open _root_.Go.Value renaming slice->aco
open _root_.Int renaming tdiv_eq_ediv_of_nonneg->ae3,tmod_eq_emod_of_nonneg->afq
open _root_.List renaming length_map->abT,getD_eq_getElem?_getD->aah,getElem?_eq_getElem->aaj,length_take->acX,replicate->aaA,getElem?_map->aeX,getElem?_replicate->afk,range->ac9,length_append->acZ,mem_map->aay,nil_append->afl,pairwise_map->afm,mem_of_mem_take->afp,map_append->aef,length_drop->adt,length_replicate->abP,length_singleton->afs
open _root_.Nat renaming le_trans->abX
namespace df
open RowKit mgr ft pl po
structure St (w:acL)(x r:Nat)(Cx Cr:Array acK)(W:acL):Prop where
 dW:acN w.heap.size w W
 bx:aD W x 34 Cx
 br:aD W r 34 Cr
 lo:w.heap.size<=x/\w.heap.size<=r/\x≠r
section
variable{w W W':acL}{x r b0:Nat}{Cx Cr:Array acK}{v v2:acK}{xs ys:List acK}{t t2:TypeId}
def St.alloc (h:St w x r Cx Cr W)(o:Obj):St w x r Cx Cr (W.alloc o):=⟨h.dW.alloc h.dW.size o,h.bx.alloc o,h.br.alloc o,h.lo⟩
def St.old (h:St w x r Cx Cr W)(hb:acN W.heap.size W W'):St w x r Cx Cr W':=⟨h.dW.trans (hb.mono h.dW.size),h.bx.old hb,h.br.old hb,h.lo⟩
def St.drew (h:St w x r Cx Cr W):St w x r Cx Cr W.drew:=⟨h.dW.drew,h.bx,h.br,h.lo⟩
def St.grown (h:St w x r Cx Cr W)(ho:aR W b0 t v xs)(ht:34≠t)(hb:w.heap.size<=b0)(hg:W.grownBy W' v.ownBlock):St w x r Cx Cr W' :=
 ⟨h.dW.grown hg h.dW.size (λk hk=>abX hb (aR.lt ho hk).2.1),h.bx.grown hg (bU ho h.bx ht),h.br.grown hg (bU ho h.br ht),h.lo⟩
def St.abg (h:St w x r Cx Cr W)(j:Nat)(u:acK):St w x r (Cx.setIfInBounds j u) Cr (W.setCell ⟨x,j,none⟩ u) :=
 ⟨h.dW.setCell (p:=⟨x,j,none⟩) h.lo.1 u,h.bx.bB j u,h.br.far (p:=⟨x,j,none⟩) (λe=>h.lo.2.2 e.symm) u,h.lo⟩
def St.cO (h:St w x r Cx Cr W)(j:Nat)(u:acK):St w x r Cx (Cr.setIfInBounds j u) (W.setCell ⟨r,j,none⟩ u) :=
 ⟨h.dW.setCell (p:=⟨r,j,none⟩) h.lo.2.1 u,h.bx.far (p:=⟨r,j,none⟩) h.lo.2.2 u,h.br.bB j u,h.lo⟩
def aR.other (h:aR W b0 t v xs){b1:Nat}(g:aR W b1 t2 v2 ys)(ht:t≠t2)(hg:W.grownBy W' v2.ownBlock):aR W' b0 t v xs :=
 aR.kept h hg (λr e e2=>by
  obtain⟨_,_,cur,hb⟩:=aR.lt h e2
  obtain⟨_,_,anf,hb2⟩:=aR.lt g e
  exact ht (bY hb2 hb))
variable{g:Nat}
def aR.iW (h:aR W b0 t v xs){cs:Array acK}(hb:aD W g t2 cs)(ht:t≠t2)(j:Nat)(u:acK):aR (W.setCell ⟨g,j,none⟩ u) b0 t v xs :=
 aR.kept h (row:=some g) (xD W g j u) (λr e e2=>by
  injection e with e
  subst e
  obtain⟨_,_,cur,hb2⟩:=aR.lt h e2
  exact ht (bY hb hb2))
variable{v0 v1 v3:acK}
def yV {w':acL}(hb:aD w' g 34 #[v0,v1,v2,v3])(tmps:Array acK)(h2:tmps[4]?=some (.pointer (some ⟨g,0,none⟩))) :
  (results Tryz.f67 tmps).run prog w'=.ok (.agg #[v0,v1,v2,v3]) w':=by
 have g0:w'.cell? ⟨g,0,none⟩=some v0:=hb.cell 0;have g1:w'.cell? ⟨g,1,none⟩=some v1:=hb.cell 1;have g2:w'.cell? ⟨g,2,none⟩=some v2:=hb.cell 2;have g3:w'.cell? ⟨g,3,none⟩=some v3:=hb.cell 3;simp only[results,results67];simp[go_sem,h2,g0,g1,g2,g3,underlying34]
variable{z:Nat->Bool}{n:Nat}
def Lg (hn:n<1062):(pre z n).length<=(pg z).length:=by
 rw[oN z hn,acZ];omega
def Ur (hn:n<1062)(hz:z n=false)(hk:(pre z n).length<(pg z).length):n<(pg z).getD (pre z n).length 0:=by
 have hs:=oN z hn;rw[hz]at hs;simp only[Bool.false_eq_true,if_false,afl]at hs;rw[hs,aah,List.getElem?_append_right aj,Nat.sub_self];rw[hs,acZ]at hk;have h0:0<(post z n).length:=aa;rw[aaj h0];exact XA (List.getElem_mem h0)
def XF (hn:n<1062)(hz:z n=false):(pg z).take (pre z n).length=pre z n/\(pg z).drop (pre z n).length=post z n:=by
 have hs:=oN z hn;rw[hz]at hs;simp only[Bool.false_eq_true,if_false,afl]at hs;rw[hs];exact⟨List.take_left' rfl,List.drop_left' rfl⟩
def Ey {l:List Nat}:∀u∈l.map (λ(n:Nat)=>vi (n:Int)),u.oneCell'=true:=λu hu=>by
 obtain⟨y,_,rfl⟩:=aay.1 hu
 rfl
def BZ (hn:n<1062)(hz:z n=false){α:Type}(f:Nat->α):((pg z).map f).take (pre z n).length++[f n]++((pg z).map f).drop (pre z n).length=(pg (GX z n)).map f:=by
 obtain⟨h1,h2⟩:=XF hn hz;rw[<-List.map_take,<-List.map_drop,h1,h2,abe hn,aef,List.map_cons,List.append_assoc];rfl
def mK {F:DF}(h:F.ok)(hz:F.z n=false):row F.b n=aaA 64 0:=by
 symm;refine Lb ai λx hx=>?_
 rw[aah,afk,if_pos hx,h.zero _ (by rw[show (64*n+x)/64=n by omega];exact hz)];rfl
def jP (hS:St w x r Cx Cr W){ts:TypeId}(hu:prog.underlying ts=some (.slice t)){z:acK}{ui:Nat}(Lf:(prog.info? t).map (λi=>(i.zero,i.size,i.bytes))=some (some z,1,ui))(hz:z.cells.size=1)(hby:ui<=24)
  (hv:aR W w.heap.size t v xs) (ht:34≠t) {a:Option Addr} {c:Nat} (hr:kT W a ys) (h1:∀u∈ys,u.oneCell'=true) (hn:xs.length+ys.length<=1000000) {m:Nat} (hm:m=ys.length) :
  ∃v' W',eH ts ts ts v (.slice a m c) W v' W'/\aR W' w.heap.size t v' (xs++ys)/\St w x r Cx Cr W'/\W.grownBy W' v.ownBlock:=by
 subst hm;obtain⟨v',W',h2,h3,h4⟩:=kU (c:=c) hu Lf hz hby hv hr h1 hn hS.dW.size;exact⟨v',W',h2,h3,hS.grown hv ht aj h4,h4⟩
def kG (W:acL)(u:acK)(t:TypeId):kT (W.alloc (.cells #[u] t)) (some ⟨W.heap.size,0,none⟩) [u]:=.inr ⟨_,_,rfl,λi hi=>by
 have:i=0:=by simpa using hi
 subst this
 exact(aD.new W t #[u]).cell 0⟩
def XG (w:acL)(x r:Nat)(Cx Cr:Array acK)(v2:acK)(ns:List acK)(bs:List acK)(v7:acK)(wx:acL):Prop :=
 ∃gz,w.heap.size<=gz/\aD wx gz 5 (madeCells #[vb 0] 64)/\aR wx w.heap.size 23 v7 (bs++[aco (some ⟨gz,0,none⟩) 64 64])/\aR wx w.heap.size 3 v2 ns/\St w x r Cx Cr wx
def fG {cs:Array acK}(hb:aD W g t2 cs)(hv:aR W b0 t v xs)(hg:W.grownBy W' v.ownBlock)(ht:t2≠t):aD W' g t2 cs:=hb.grown hg (bU hv hb ht)
abbrev pV:Obj:=.cells (madeCells #[vb 0] 64) 5
section
variable{ns bs:List acK}{ab:Option Addr}{cb k:Nat}
def abh (hS:St w x r Cx Cr W)(h2:aR W w.heap.size 3 v2 ns)(hr:kT W ab bs)(h1:∀u∈bs,u.oneCell'=true)(hk:k=bs.length)(hn:bs.length<=5000) :
  ∃v1 wa v7 wb,eH 32 32 32 (.slice none 0 0) (.slice ab k cb) W v1 wa/\eH 32 32 32 v1 (.slice (some ⟨(wa.alloc pV).heap.size,0,none⟩) 1 1) ((wa.alloc pV).alloc (.cells #[.slice (some ⟨wa.heap.size,0,none⟩) 64 64] 23)) v7 wb/\XG w x r Cx Cr v2 ns bs v7 wb/\St w x r Cx Cr wa:=by
 obtain⟨v1,wa,a1,o1,S1,g1⟩:=jP hS underlying32 fT rfl aa (aR.nil W w.heap.size 23) ag (c:=cb) hr h1 (by simp;omega) hk;have i1:=aR.other h2 (aR.nil W w.heap.size 23) ag g1;rw[afl]at o1;have S2:=(S1.alloc pV).alloc (.cells #[.slice (some ⟨wa.heap.size,0,none⟩) 64 64] 23);have hbel:acN wa.heap.size wa ((wa.alloc pV).alloc (.cells #[.slice (some ⟨wa.heap.size,0,none⟩) 64 64] 23)):=ax.alloc ai _;obtain⟨v7,wb,a2,o2,S3,g2⟩:=jP S2 underlying32 fT rfl aa (o1.old hbel) ag (c:=1) (kG (wa.alloc pV) (.slice (some ⟨wa.heap.size,0,none⟩) 64 64) 23) (λu hu=>by simp at hu;rw[hu];rfl) (by simp;omega) (m:=1) rfl
 exact⟨v1,wa,v7,wb,a1,a2,⟨wa.heap.size,S1.dW.size,fG ((aD.new wa 5 (madeCells #[vb 0] 64)).alloc _) (o1.old hbel) g2 ag,o2,aR.other (i1.old hbel) (o1.old hbel) ag g2,S3⟩,S1⟩
def abj (hS:St w x r Cx Cr W)(h2:aR W w.heap.size 3 v2 ns)(hr:kT W ab bs)(h1:∀u∈bs,u.oneCell'=true)(hk:k=bs.length)(hn:bs.length<=5000) :
  ∃v1 wa v7 wb,eH 32 32 32 (.slice none 0 0) (.slice ab k cb) (W.alloc pV) v1 wa/\eH 32 32 32 v1 (.slice (some ⟨wa.heap.size,0,none⟩) 1 1) (wa.alloc (.cells #[.slice (some ⟨W.heap.size,0,none⟩) 64 64] 23)) v7 wb/\XG w x r Cx Cr v2 ns bs v7 wb/\St w x r Cx Cr wa:=by
 have hb0:acN W.heap.size W (W.alloc pV):=ax;obtain⟨v1,wa,a1,o1,S1,g1⟩:=jP (hS.alloc pV) underlying32 fT rfl aa (aR.nil (W.alloc pV) w.heap.size 23) ag (c:=cb) (hr.old hb0) h1 (by simp;omega) hk;have i1:=aR.other (h2.old hb0) (aR.nil (W.alloc pV) w.heap.size 23) ag g1;have z1:=fG (aD.new W 5 (madeCells #[vb 0] 64)) (aR.nil (W.alloc pV) w.heap.size 23) g1 ag;rw[afl]at o1;have hbel:acN wa.heap.size wa (wa.alloc (.cells #[.slice (some ⟨W.heap.size,0,none⟩) 64 64] 23)):=ax
 obtain⟨v7,wb,a2,o2,S3,g2⟩:=jP (S1.alloc (.cells #[.slice (some ⟨W.heap.size,0,none⟩) 64 64] 23)) underlying32 fT rfl aa (o1.old hbel) ag (c:=1) (kG wa (.slice (some ⟨W.heap.size,0,none⟩) 64 64) 23) (λu hu=>by simp at hu;rw[hu];rfl) (by simp;omega) (m:=1) rfl;exact⟨v1,wa,v7,wb,a1,a2,⟨W.heap.size,hS.dW.size,fG (z1.alloc _) (o1.old hbel) g2 ag,o2,aR.other (i1.old hbel) (o1.old hbel) ag g2,S3⟩,S1⟩
def abk (hS:St w x r Cx Cr W)(h2:aR W w.heap.size 3 v2 ns)(hr:kT W ab bs)(h1:∀u∈bs,u.oneCell'=true)(hk:k=bs.length)(hn:bs.length<=5000) :
  ∃v1 wa v7 wb,eH 32 32 32 (.slice none 0 0) (.slice ab k cb) ((W.alloc pV).alloc (.cells #[.slice (some ⟨W.heap.size,0,none⟩) 64 64] 23)) v1 wa/\eH 32 32 32 v1 (.slice (some ⟨(W.alloc pV).heap.size,0,none⟩) 1 1) wa v7 wb/\XG w x r Cx Cr v2 ns bs v7 wb/\St w x r Cx Cr wa:=by
 have hb0:acN W.heap.size W ((W.alloc pV).alloc (.cells #[.slice (some ⟨W.heap.size,0,none⟩) 64 64] 23)):=ax.alloc ai _;have SS:=(hS.alloc pV).alloc (.cells #[.slice (some ⟨W.heap.size,0,none⟩) 64 64] 23);have hone:=kG (W.alloc pV) (.slice (some ⟨W.heap.size,0,none⟩) 64 64) 23;have hzz:=(aD.new W 5 (madeCells #[vb 0] 64)).alloc (.cells #[.slice (some ⟨W.heap.size,0,none⟩) 64 64] 23);have hr0:=hr.old hb0;have h20:=h2.old hb0;generalize ((W.alloc pV).alloc (.cells #[.slice (some ⟨W.heap.size,0,none⟩) 64 64] 23))=V at*;obtain⟨v1,wa,a1,o1,S1,g1⟩:=jP SS underlying32 fT rfl aa (aR.nil V w.heap.size 23) ag (c:=cb) hr0 h1 (by simp;omega) hk
 have i1:=aR.other h20 (aR.nil V w.heap.size 23) ag g1;have z1:=fG hzz (aR.nil V w.heap.size 23) g1 ag;rw[afl]at o1;have hV:kT wa (some ⟨(W.alloc pV).heap.size,0,none⟩) [.slice (some ⟨W.heap.size,0,none⟩) 64 64]:=by
  rcases hone with h|⟨b,o,e,h⟩;cases h;refine .inr ⟨b,o,e,λi hi=>?_⟩;have hc:=h i hi;rw[aaj hi]at hc ⊢;exact cell_kept hc g1 (λr e=>by simp[acK.ownBlock]at e)
 obtain⟨v7,wb,a2,o2,S3,g2⟩:=jP S1 underlying32 fT rfl aa o1 ag (c:=1) hV (λu hu=>by simp at hu;rw[hu];rfl) (by simp;omega) (m:=1) rfl;exact⟨v1,wa,v7,wb,a1,a2,⟨W.heap.size,hS.dW.size,fG z1 o1 g2 ag,o2,aR.other i1 o1 ag g2,S3⟩,S1⟩
end
def St.c03 (h:St w x r #[v0,v1,v2,v3] Cr W):W.cell? ⟨x,3,none⟩=some v3/\W.cell? ⟨x,0,none⟩=some v0:=⟨h.bx.cell 3,h.bx.cell 0⟩
def aR.four (h:aR W b0 t v xs)(S:St w x r Cx Cr W)(ht:t≠34)(u0 u1 u2 u3:acK) :
  aR ((((W.setCell ⟨r,0,none⟩ u0).setCell ⟨r,1,none⟩ u1).setCell ⟨r,2,none⟩ u2).setCell ⟨r,3,none⟩ u3) b0 t v xs :=
 aR.iW (aR.iW (aR.iW (aR.iW h S.br ht 0 u0) (S.cO 0 u0).br ht 1 u1) ((S.cO 0 u0).cO 1 u1).br ht 2 u2) (((S.cO 0 u0).cO 1 u1).cO 2 u2).br ht 3 u3
def St.fourB {cs:Array acK}(S:St w x r Cx Cr W)(h:aD W g t cs)(ht:34≠t)(u0 u1 u2 u3:acK) :
  aD ((((W.setCell ⟨r,0,none⟩ u0).setCell ⟨r,1,none⟩ u1).setCell ⟨r,2,none⟩ u2).setCell ⟨r,3,none⟩ u3) g t cs:=by
 have hne:g≠r:=λe=>by subst e;exact ht (bY h S.br)
 exact(((h.far (p:=⟨r,0,none⟩) hne u0).far (p:=⟨r,1,none⟩) hne u1).far (p:=⟨r,2,none⟩) hne u2).far (p:=⟨r,3,none⟩) hne u3
def Us (h:aD W g 5 (madeCells #[vb 0] 64)):bE W (some ⟨g,0,none⟩) (aaA 64 0):=by
 refine⟨λy hy=>by rw[List.eq_of_mem_replicate hy];decide,.inr ⟨g,0,rfl,λi hi=>?_⟩⟩;rw[abP]at hi;rw[Nat.zero_add,h.cell,<-Array.getElem?_toList,toList_madeCells_one,afk,if_pos hi,aah,afk,if_pos hi];rfl
abbrev z4:Array acK:=#[vi 0,vi 0,aco none 0 0,aco none 0 0]
def St.Ut (S:St w x r #[v0,v1,v2,v3] z4 W) :
  W.cell? ⟨x,0,none⟩=some v0/\W.cell? ⟨x,1,none⟩=some v1/\W.cell? ⟨x,2,none⟩=some v2/\W.cell? ⟨x,3,none⟩=some v3 /\
  W.cell? ⟨r,0,none⟩=some (vi 0)/\W.cell? ⟨r,1,none⟩=some (vi 0)/\W.cell? ⟨r,2,none⟩=some (aco none 0 0)/\W.cell? ⟨r,3,none⟩=some (aco none 0 0) /\
  W.frozen? ⟨r,0,none⟩=false/\W.frozen? ⟨r,1,none⟩=false/\W.frozen? ⟨r,2,none⟩=false/\W.frozen? ⟨r,3,none⟩=false :=
 ⟨S.bx.cell 0,S.bx.cell 1,S.bx.cell 2,S.bx.cell 3,S.br.cell 0,S.br.cell 1,S.br.cell 2,S.br.cell 3,S.br.frozen 0,S.br.frozen 1,S.br.frozen 2,S.br.frozen 3⟩
def uV {c:Code}{P:Program}{Q:Exit->Act->acL->Prop}{a:Act}{C:Array acK}(h:∀W,Hid (St w w.heap.size (w.heap.size+1) C z4 W)->Hid (W.heap.size=w.heap.size+2)->c.wp P Q a W) :
  c.wp P Q a ((w.alloc (.cells C 34)).alloc (.cells z4 34)) :=
 h _ (az ⟨ax.alloc ai _,(aD.new w 34 _).alloc _,by have h:=aD.new (w.alloc (.cells C 34)) 34 z4;rwa[size_alloc]at h,aj,aa,aa⟩) (az ai)
def Uu {K:Nat->Prop}{F:DF}{ap ab:Option Addr}{N cp cb:Nat}(h:pU w K F ap N cp ab cb)(hK:∀n,K n->n<w.heap.size)(n:Nat)(hn:n<1062):Calls prog 67 #[qm F.size ap N cp ab cb,vi n] w λe w'=>∃v,e=.returned v/\Je w' K v (F.with_ n)/\acN w.heap.size w w':=by
 have H:=az h;have Nf:=az hK;have HN:=az hn;have HS:=az h.small;have je:=az h.len;have qL:=az (Lg (z:=F.z) hn);have KI:=az (λk (hk:k<(pre F.z n).length)=>Pw (z:=F.z) hn hk);clear h hn hK;obtain⟨k,hk⟩:∃K,K=(pre F.z n).length:=⟨_,rfl⟩;rw[<-hk]at qL KI;have HK:=az hk;clear hk;obtain⟨sz,hsz⟩:∃s,s=F.size:=⟨_,rfl⟩;rw[<-hsz];have jS:=az hsz;clear hsz;obtain⟨bs,hbs⟩:=H.o.rows;have Lh:=az hbs;have lK:Hid (bs.length=N):=az (by rw[hbs.2.1,abT,je.o]);clear hbs;unfold qm;go_in;go_upto_region 1 with fail;refine uV λw1 fV _=>?_
 obtain⟨x,hx⟩:∃x,x=w.heap.size:=⟨_,rfl⟩;rw[<-hx]at fV ⊢;clear hx;generalize x+1=r at*;have Tk:=az (H.o.zy.below fV.o.dW);have x2:w1.cell? ⟨x,2,none⟩=some (.slice ap N cp):=fV.o.bx.cell 2;have HEL:Hid (∀k,k<N->∃b o,ap=some ⟨b,o,none⟩/\w1.cell? ⟨b,o+k,none⟩=some (vi ((pg F.z).getD k 0:Nat))):=az (λk hk=>by
  have hkl:k<(pg F.z).length:=by rw[je.o];exact hk
  obtain⟨b,o,hab,c1⟩:=Tk.o.lookup (i:=k) (by rw[abT];exact hkl)
  rw[wF hkl]at c1
  exact⟨b,o,hab,c1⟩)
 go_wp2_with fail;go_loopw [5] (λi wr=>∃j:Nat,j<=k/\i=vi j/\wr=w1) (λi _=>k-(intOf i).toNat)
 case atStart=>exact⟨0,Nat.zero_le _,rfl,rfl⟩
 case round =>
  obtain⟨j,hj,rfl,rfl⟩:=hrel;by_cases hjk:j<k
  ·have n1:(j:Int)<(N:Int):=by have h1:=qL.o;have h2:=je.o;omega
   obtain⟨b,o,hab,c1⟩:=HEL.o j aa;have hlt:=KI.o j hjk;generalize (pg F.z).getD j 0=m at*;subst hab;have n2:(m:Int)<(n:Int):=aa;have r2:adk.wrap ((j:Int)+1)=((j+1:Nat):Int):=by rw[adl _ (by have h1:=HS.o;omega)];omega
   have HKK:=az hjk;clear hlt hjk hj;go_wp2;go_roundw
   case rel=>exact⟨j+1,HKK.o,by first|rfl|trivial,by first|rfl|trivial⟩
   case measure=>have:=HKK.o;simp[intOf];omega
  obtain rfl:j=k:=aa;clear hj hjk;have HEX:Hid ((j<N/\∃b o m,ap=some ⟨b,o,none⟩/\wr.cell? ⟨b,o+j,none⟩=some (vi (m:Nat))/\n<=m/\(m=n↔F.z n=true))\/(j=N/\F.z n=false)):=az (by
   by_cases Gi:j<N
   obtain⟨b,o,hab,c1⟩:=HEL.o j Gi
   refine .inl ⟨Gi,b,o,_,hab,c1,?_⟩
   by_cases hz:F.z n=true
   have h1:=BX HN.o hz
   rw[<-HK.o,je.o]at h1
   rw[aah,h1.1]
   exact⟨aj,λ_=>hz,λ_=>rfl⟩
   have hz':F.z n=false:=by simpa using hz
   have hlt:=Ur HN.o hz' (by rw[<-HK.o,je.o];exact Gi)
   rw[<-HK.o]at hlt
   exact⟨Nat.le_of_lt hlt,λe=>aa,λe=>absurd e hz⟩
   have ais:j=N:=by have h1:=qL.o;have h2:=je.o;omega
   refine .inr ⟨ais,?_⟩
   cases hz:F.z n with
   |false=>rfl
   |true =>
    have h1:=BX HN.o hz
    rw[<-HK.o,je.o]at h1
    omega)
  go_upto_region 2 with fail;clear x2;have x2:wr.cell? ⟨x,2,none⟩=some (.slice ap N cp):=fV.o.bx.cell 2;go_cut [21] from 8 to 23 (λv wx=>v=.bool false/\wx=wr)
  case first =>
   rcases HEX.o with⟨Gi,b,o,m,hab,c1,hm,hmz⟩|⟨Gi,hz⟩
   ·subst hab;have n1:(j:Int)<(N:Int):=aa;have n2:¬(m:Int)<(n:Int):=aa;clear Gi hm hmz;go_wp2;go_meet;exact⟨rfl,rfl⟩
   have n1:¬(j:Int)<(N:Int):=aa;clear Gi hz;go_wp2;go_meet;exact⟨rfl,rfl⟩
  case rest =>
  obtain⟨rfl,rfl⟩:=hcut;clear x2;generalize wc=w1 at*;have x2:w1.cell? ⟨x,2,none⟩=some (.slice ap N cp):=fV.o.bx.cell 2;go_upto_region 4 with fail;go_cut [37] from 24 to 74 (λv wx=>v=.bool (F.z n)/\wx=w1)
  case first =>
   rcases HEX.o with⟨Gi,b,o,m,hab,c1,hm,hmz⟩|⟨Gi,hz⟩
   ·subst hab;have n1:(j:Int)<(N:Int):=aa;have n2:((m:Int)==(n:Int))=F.z n:=by
     by_cases e:m=n;rw[hmz.1 e,e];simp;have h1:F.z n=false:=by simpa using λh=>e (hmz.2 h)
     rw[h1];exact beq_eq_false_iff_ne.2 aa
    clear Gi hm hmz;generalize F.z n=zz at*;go_wp2;go_meet;exact⟨rfl,rfl⟩
   have n1:¬(j:Int)<(N:Int):=aa;clear Gi;go_wp2;go_meet;exact⟨by rw[hz],rfl⟩
  case rest =>
  obtain⟨rfl,rfl⟩:=hcut;clear x2;cases hz:F.z n with
  |true =>
   generalize wc=w1 at*;have HW:Hid (F.with_ n=F):=az (by unfold DF.with_;rw[Um hz]);obtain⟨x0,x1,x2,x3,g0,g1,g2,g3,f0,f1,f2,f3⟩:=fV.o.Ut;have vB:=az ((((fV.o.cO 0 (vi 64)).cO 1 (vi sz)).cO 2 (.slice ap N cp)).cO 3 (.slice ab N cb));have Px:Hid (Je ((((w1.setCell ⟨r,0,none⟩ (vi 64)).setCell ⟨r,1,none⟩ (vi sz)).setCell ⟨r,2,none⟩ (.slice ap N cp)).setCell ⟨r,3,none⟩ (.slice ab N cb)) K (.agg #[vi 64,vi sz,.slice ap N cp,.slice ab N cb]) (F.with_ n)):=az (by
    rw[HW.o]
    exact⟨_,_,_,_,_,by unfold qm;rw[<-jS.o],H.o.old vB.o.dW⟩)
   clear hz;go_wp2_with fail;refine bodyPost_ret (yV vB.o.br _ rfl) rfl ⟨_,rfl,Px.o,vB.o.dW⟩
  |false =>
   generalize wc=w1 at*;have HZ:=az hz;have Gi:j<=N:=by have h1:=qL.o;have h2:=je.o;omega
   have hpr:iM w1 ap cp ((pg F.z).map λ(n:Nat)=>vi (n:Int)):=H.o.aB.old fV.o.dW;have hpc:=hpr.cap;rw[abT,je.o]at hpc;have hsl:=Uo (xs:=(pg F.z).map λ(n:Nat)=>vi (n:Int)) underlying31 mgr.jI (N:=N) (k:=j) hpr aa w1;obtain⟨v1,w2,ha1,ho1,S2,hg1⟩:=jP fV.o underlying31 mgr.jI rfl aa (aR.nil w1 w.heap.size 3) ag (c:=cp) (kT.take hpr.toV j) (λu hu=>Ey u (afp hu)) (by have:=HS.o;simp;omega) (m:=j) (by rw[acX,abT,je.o];omega);have hbel:acN w2.heap.size w2 (w2.alloc (.cells #[vi n] 3)):=(acN.refl _ w2).alloc aj _
   obtain⟨v2,w3,ha2,ho2,S3,hg2⟩:=jP (S2.alloc (.cells #[vi n] 3)) underlying31 mgr.jI rfl aa (ho1.old hbel) ag (c:=1) (kG w2 (vi n) 3) (λu hu=>by simp at hu;rw[hu];rfl) (by simp;have:=HS.o;omega) (m:=1) rfl;have RA1:=az ha1;have RA2:=az ha2;have yz:=az ho2;have GL:=az S3;clear hpr hpc hg1 hg2 ha1 ha2 ho1 ho2 S2 S3 hbel hz Gi;have x2:w1.cell? ⟨x,2,none⟩=some (.slice ap N cp):=fV.o.bx.cell 2;go_upto_region 9 with (at_builtin;first|refine wpList_append_run rfl (.tmp 39) (.tmp 43) rfl rfl rfl RA1.o.run ?_|refine wpList_append_run rfl (.tmp 44) (.tmp 46) rfl rfl rfl RA2.o.run ?_)
   clear x2 hsl;go_cut [7] from 48 to 74 (λv7 wx=>Hid (XG w x r #[vi 64,vi sz,.slice ap N cp,.slice ab N cb] z4 v2 (((pg F.z).map λ(n:Nat)=>vi (n:Int)).take j++[vi (n:Int)]) (bs.take j) v7 wx))
   case first =>
    have ang:∀w:acL,(Instr.makeSlice 23 (vi 64) (vi 64)).run prog w=.ok (.slice (some ⟨w.heap.size,0,none⟩) 64 64) (w.alloc pV):=λw=>gp 64 aa w;have Py:iM w3 ab cb bs:=Lh.o.1.old GL.o.dW;have ZB:=Py.cap;have Gi:j<=N:=by have h1:=qL.o;have h2:=je.o;omega
    have hjl:j=(bs.take j).length:=by rw[acX,lK.o];omega
    have hsl:=Uo (xs:=bs) underlying32 fT (N:=N) (k:=j) Py (by rw[lK.o]at ZB;omega);have h1c:∀u∈bs.take j,u.oneCell'=true:=λu hu=>Rows.one_cell Lh.o.2 u (afp hu)
    have hln:(bs.take j).length<=5000:=by rw[<-hjl];have:=HS.o;omega
    obtain⟨va,wa,va7,wb,A1,A2,A3,A4⟩:=abh (cb:=cb) GL.o.drew yz.o (kT.take Py.toV j) h1c hjl hln;obtain⟨vb_,wba,vb7,wbb,B1,B2,B3,B4⟩:=abj (cb:=cb) GL.o.drew yz.o (kT.take Py.toV j) h1c hjl hln;obtain⟨vc,wca,vc7,wcb,C1,C2,C3,C4⟩:=abk (cb:=cb) GL.o.drew yz.o (kT.take Py.toV j) h1c hjl hln;have RA:=az A1;have RA':=az A2;have RB:=az B1;have RB':=az B2;have RC:=az C1;have RC':=az C2;have PA:=az A3;have PB:=az B3;have PC:=az C3;have SA:=az A4;have SB:=az B4;have SC:=az C4;have SA2:Hid (St w x r #[vi 64,vi sz,.slice ap N cp,.slice ab N cb] z4 wb):=az (by obtain⟨_,_,_,_,_,h⟩:=A3;exact h)
    have SB2:Hid (St w x r #[vi 64,vi sz,.slice ap N cp,.slice ab N cb] z4 wbb):=az (by obtain⟨_,_,_,_,_,h⟩:=B3;exact h);have SC2:Hid (St w x r #[vi 64,vi sz,.slice ap N cp,.slice ab N cb] z4 wcb):=az (by obtain⟨_,_,_,_,_,h⟩:=C3;exact h);clear A1 A2 A3 A4 B1 B2 B3 B4 C1 C2 C3 C4 Py ZB Gi hjl h1c hln;go_region_held3 (λW=>W.cell? ⟨x,3,none⟩=some (.slice ab N cb)/\W.cell? ⟨x,0,none⟩=some (vi 64))
     (first|(refine St.c03 (w:=w) (r:=r) (Cr:=z4) (v0:=vi 64) (v1:=vi sz) (v2:=.slice ap N cp) (v3:=.slice ab N cb) ?_;repeat (with_reducible first|exact GL.o|exact SA.o|exact SB.o|exact SC.o|exact SA2.o|exact SB2.o|exact SC2.o|refine St.drew ?_|refine St.alloc ?_ _)))
     (first
      |(refine jH (.tmp 48) (.tmp 52) RA.o (by rfl) (by rfl) (by go_simp) (by go_simp) ?_)
      |(refine jH (.tmp 53) (.tmp 57) RA'.o (by rfl) (by rfl) (by go_simp) (by go_simp) ?_)
      |(refine jH (.tmp 48) (.tmp 52) RB.o (by rfl) (by rfl) (by go_simp) (by go_simp) ?_)
      |(refine jH (.tmp 53) (.tmp 57) RB'.o (by rfl) (by rfl) (by go_simp) (by go_simp) ?_)
      |(refine jH (.tmp 48) (.tmp 52) RC.o (by rfl) (by rfl) (by go_simp) (by go_simp) ?_)
      |(refine jH (.tmp 53) (.tmp 57) RC'.o (by rfl) (by rfl) (by go_simp) (by go_simp) ?_))
    all_goals
     go_wp2;go_meet;first|exact PA|exact PB|exact PC
   case rest =>
   generalize wc=w4 at*;obtain⟨gz,hgz,hzb,Fw,yL,S4⟩:=hcut.o;have vB:=az S4;have Gi:j<=N:=by have h1:=qL.o;have h2:=je.o;omega
   clear hcut GL yz RA1 RA2;have hpr:iM w4 ap cp ((pg F.z).map λ(n:Nat)=>vi (n:Int)):=H.o.aB.old S4.dW;have hbr:iM w4 ab cb bs:=Lh.o.1.old S4.dW;obtain⟨a1,hs1,hv1⟩:=Jc (xs:=(pg F.z).map λ(n:Nat)=>vi (n:Int)) underlying31 mgr.jI (k:=j) hpr (by rw[abT,je.o];omega);rw[abT,je.o]at hs1;obtain⟨v3,w5,ha5,jT,S5,hg5⟩:=jP S4 underlying31 mgr.jI rfl aa yL ag (c:=cp-j) hv1 (λu hu=>Ey u (List.mem_of_mem_drop hu)) (by have:=HS.o;simp;rw[je.o];omega) (m:=N-j) (by rw[adt,abT,je.o]);have eX:Hid (((pg F.z).map λ(n:Nat)=>vi (n:Int)).take j++[vi (n:Int)]++((pg F.z).map λ(n:Nat)=>vi (n:Int)).drop j=(pg (GX F.z n)).map λ(n:Nat)=>vi (n:Int)):=az (by
    have:=BZ HN.o HZ.o (λ(n:Nat)=>vi (n:Int))
    rwa[<-HK.o]at this)
   rw[eX.o]at jT;have aei:=aR.other Fw yL ag hg5;have hz5:=fG hzb yL hg5 ag;obtain⟨a3,c3,e3,_⟩:=jT.Du;have HLO:Hid ((pg (GX F.z n)).length=N+1):=az (by
    have h1:=congrArg List.length eX.o
    simp only[acZ,acX,adt,abT,afs,je.o]at h1
    omega)
   rw[abT,HLO.o]at e3;subst e3;have S6:=S5.abg 2 (.slice a3 (N+1) c3);have aej:=aR.iW jT S5.bx ag 2 (.slice a3 (N+1) c3);have aek:=aR.iW aei S5.bx ag 2 (.slice a3 (N+1) c3);have hz6:aD (w5.setCell ⟨x,2,none⟩ (.slice a3 (N+1) c3)) gz 5 (madeCells #[vb 0] 64):=hz5.far (p:=⟨x,2,none⟩) (λe=>by
    have h1:=S5.bx
    have e':gz=x:=e
    rw[<-e']at h1
    exact absurd (bY h1 hz5) ag) _
   have RA5:=az ha5;have x2:w4.cell? ⟨x,2,none⟩=some (.slice ap N cp):=S4.bx.cell 2;have y2:w5.cell? ⟨x,2,none⟩=some (.slice ap N cp):=S5.bx.cell 2;have f2:=S5.bx.frozen 2;have xG:=az S6;have CW:=az aej;have QT:=az aek;have Zr:=az hz6;clear ha5 jT S5 hg5 aei hz5 yL Fw hzb S4 vB hpr hbr hv1 S6 aej aek hz6;go_upto_region 11 with (at_builtin;refine wpList_append_run rfl (.tmp 59) (.tmp 63) rfl rfl rfl RA5.o.run ?_);clear x2 y2 f2 hs1 RA5;generalize w5.setCell ⟨x,2,none⟩ (.slice a3 (N+1) c3)=w6 at*;have hbr:iM w6 ab cb bs:=Lh.o.1.old xG.o.dW;obtain⟨a2,hs2,hv2⟩:=Jc (xs:=bs) underlying32 fT (k:=j) hbr (by rw[lK.o];omega)
   rw[lK.o]at hs2;obtain⟨v8,w7,ha7,QY,S7,yO⟩:=jP xG.o underlying32 fT rfl aa QT.o ag (c:=cb-j) hv2 (λu hu=>Rows.one_cell Lh.o.2 u (List.mem_of_mem_drop hu)) (by have:=HS.o;simp;rw[lK.o];omega) (m:=N-j) (by rw[adt,lK.o]);have ael:=aR.other CW.o QT.o ag yO;have hz7:=fG Zr.o QT.o yO ag;have aiv:Hid ((bs.take j++[acK.slice (some ⟨gz,0,none⟩) 64 64]++bs.drop j).length=N+1):=az (by
    simp only[acZ,acX,adt,afs,lK.o]
    omega)
   obtain⟨a4,c4,e4,_⟩:=QY.Du;rw[aiv.o]at e4;subst e4;have S8:=S7.abg 3 (.slice a4 (N+1) c4);have aem:=aR.iW QY S7.bx ag 3 (.slice a4 (N+1) c4);have aen:=aR.iW ael S7.bx ag 3 (.slice a4 (N+1) c4);have hz8:aD (w7.setCell ⟨x,3,none⟩ (.slice a4 (N+1) c4)) gz 5 (madeCells #[vb 0] 64):=hz7.far (p:=⟨x,3,none⟩) (λe=>by
    have h1:=S7.bx
    have e':gz=x:=e
    rw[<-e']at h1
    exact absurd (bY h1 hz7) ag) _
   have RA7:=az ha7;have x3:w6.cell? ⟨x,3,none⟩=some (.slice ab N cb):=xG.o.bx.cell 3;have y3:w7.cell? ⟨x,3,none⟩=some (.slice ab N cb):=S7.bx.cell 3;have f3:=S7.bx.frozen 3;have mV:=az S8;have HOA:=az aen;have ZC:=az aem;have HZ8:=az hz8;clear ha7 QY S7 yO ael hz7 xG CW QT Zr hbr hv2 S8 aem aen hz8 Gi;go_upto_region 12 with (at_builtin;refine wpList_append_run rfl (.tmp 66) (.tmp 70) rfl rfl rfl RA7.o.run ?_);clear x3 y3 f3 hs2 RA7;generalize w7.setCell ⟨x,3,none⟩ (.slice a4 (N+1) c4)=w8 at*;obtain⟨x0,x1,x2,x3,g0,g1,g2,g3,f0,f1,f2,f3⟩:=mV.o.Ut;have ZE:=az ((((mV.o.cO 0 (vi 64)).cO 1 (vi sz)).cO 2 (.slice a3 (N+1) c3)).cO 3 (.slice a4 (N+1) c4))
   have HOC:=az (aR.four HOA.o mV.o ag (vi 64) (vi sz) (.slice a3 (N+1) c3) (.slice a4 (N+1) c4));have HOD:=az (aR.four ZC.o mV.o ag (vi 64) (vi sz) (.slice a3 (N+1) c3) (.slice a4 (N+1) c4));have HZ9:=az (mV.o.fourB HZ8.o ag (vi 64) (vi sz) (.slice a3 (N+1) c3) (.slice a4 (N+1) c4));go_wp2_with fail;refine bodyPost_ret (yV ZE.o.br _ rfl) rfl ⟨_,rfl,?_,ZE.o.dW⟩;have hlt:∀n,K n->n<w.heap.size:=Nf.o;refine⟨a3,N+1,c3,a4,c4,by unfold qm;rw[jS.o];rfl,?_⟩;obtain⟨a',c',e9,Py⟩:=HOC.o.Du;injection e9 with XH e92 XI;subst XH XI;obtain⟨a'',c'',e9,hp8⟩:=HOD.o.Du
   injection e9 with XH e92 XI;subst XH XI;refine⟨H.o.ok.with_ HN.o,HLO.o,Py,Off.own HOC.o hlt,⟨_,hp8,?_⟩,Off.own HOD.o hlt⟩;have hold:=Lh.o.2.old ZE.o.dW;have hzr:Rows K _ [.slice (some ⟨gz,0,none⟩) 64 64] [aaA 64 0]:=Rows.one (Us HZ9.o) (λad e=>by injection e with e;subst e;exact⟨HZ9.o.lt,λk=>by have h9:gz<w.heap.size:=hlt _ k;omega⟩) ai aj;have hall:=((hold.take j).append hzr).append (hold.drop j);have XJ:=BZ HN.o HZ.o (row F.b);rw[mK H.o.ok HZ.o,<-HK.o]at XJ;rw[XJ]at hall;exact hall
end
def mW:(prog.info? 5).map (λi=>(i.zero,i.size,i.bytes))=some (some (vb 0),1,1):=ah
variable{w:acL}{a:Option Addr}{l:List Nat}
def kT.bytes (h:bE w a l):kT w a (l.map vb):=by
 rcases h.at_ with rfl|⟨b,o,rfl,h1⟩;exact .inl rfl;refine .inr ⟨b,o,rfl,λi hi=>?_⟩;rw[abT]at hi;rw[h1 i hi,aeX,aaj hi];simp[List.getD,hi]
def Li :∀u∈l.map vb,u.oneCell'=true:=λu hu=>by
 obtain⟨y,_,rfl⟩:=aay.1 hu
 rfl
variable{b0 n:Nat}
def aR.zu {c:Nat}(h:aR w b0 5 (aco a n c) (l.map vb))(hs:∀y∈l,y<256):bE w a l/\n=l.length:=by
 obtain⟨a',c',e,hv,_⟩:=h.Le;injection e with e1 e2 e3;subst e1;rw[abT]at e2;refine⟨⟨hs,?_⟩,e2⟩;rcases hv with h0|⟨b,o,rfl,h1⟩;exact .inl (List.map_eq_nil_iff.1 h0);refine .inr ⟨b,o,rfl,λi hi=>?_⟩;rw[h1 i (by rw[abT];exact hi),aeX,aaj hi];simp[List.getD,hi]
def Uv (b:Nat->Nat)(x v:Nat):(row b (x/64)).set (x%64) v=row (λy=>if y=x then v else b y) (x/64):=by
 refine Lb (by rw[List.length_set,wE]) λy hy=>?_
 rw[aah,List.getElem?_set];by_cases e:x%64=y;rw[if_pos e,if_pos (by rw[wE];omega),if_pos aa];rfl;rw[if_neg e,if_neg aa,<-aah,sZ _ _ hy]
def XK {b:Nat->Nat}{x v m:Nat}(h:m≠x/64):row (λy=>if y=x then v else b y) m=row b m:=by
 symm;refine Lb (wE _ _) λy hy=>?_
 rw[if_neg aa,sZ _ _ hy]
def Pz {z:Nat->Bool}{b:Nat->Nat}{x v:Nat}(hn:x/64<1062)(hz:z (x/64)=true) :
  ((pg z).map (row b)).set (pre z (x/64)).length ((row b (x/64)).set (x%64) v)=(pg z).map (row λy=>if y=x then v else b y):=by
 obtain⟨h1,h2⟩:=BX hn hz;refine List.ext_getElem? λi=>?_
 rw[List.getElem?_set,aeX,aeX];by_cases e:(pre z (x/64)).length=i;rw[if_pos e,if_pos (by rw[abT];exact h2),<-e,h1,Uv];rfl;rw[if_neg e];rcases Nat.lt_or_ge i (pg z).length with hi|hi;rw[aaj hi];show some (row b _)=some (row _ _);rw[XK];intro e2;have:=Jf (Gd z) hi (n:=x/64) (by rw[aah,aaj hi];exact e2) ⟨h1,h2⟩;exact e this.symm;rw[List.getElem?_eq_none hi];rfl
variable{g:Nat}
def kH {w':acL}{v0 v1 v2 v3:acK}(hb:aD w' g 34 #[v0,v1,v2,v3])(tmps:Array acK)(h2:tmps[6]?=some (.pointer (some ⟨g,0,none⟩))) :
  (results Tryz.f68 tmps).run prog w'=.ok (.agg #[v0,v1,v2,v3]) w':=by
 have g0:w'.cell? ⟨g,0,none⟩=some v0:=hb.cell 0;have g1:w'.cell? ⟨g,1,none⟩=some v1:=hb.cell 1;have g2:w'.cell? ⟨g,2,none⟩=some v2:=hb.cell 2;have g3:w'.cell? ⟨g,3,none⟩=some v3:=hb.cell 3;simp only[results,results68];simp[go_sem,h2,g0,g1,g2,g3,underlying34]
variable{xs:List acK}
def aR.put {c:Nat}{t:TypeId}(h:aR w b0 t (aco (some ⟨g,0,none⟩) n c) xs)(j:Nat)(u:acK) :
  aR (w.setCell ⟨g,j,none⟩ u) b0 t (aco (some ⟨g,0,none⟩) n c) (xs.set j u)/\w.grownBy (w.setCell ⟨g,j,none⟩ u) (some g):=by
 obtain⟨a,c',e,_⟩:=h.Le;injection e with e1 e2 e3;subst e2;unfold aR;rw[List.length_set];exact acL.ownsRow.stored h j u
def aR.some_ {t:TypeId}{v:acK}(h:aR w b0 t v xs)(hn:0<xs.length):∃g c,v=aco (some ⟨g,0,none⟩) xs.length c/\b0<=g/\xs.length<=c:=by
 rcases h.2 with⟨rfl,h0⟩|⟨g,cap,cur,rfl,hb,_,hnc,_⟩;omega;exact⟨g,cap,rfl,hb,hnc⟩
def aR.cell {c:Nat}{t:TypeId}(h:aR w b0 t (aco (some ⟨g,0,none⟩) n c) xs){j:Nat}(hj:j<xs.length):w.cell? ⟨g,j,none⟩=xs[j]?/\w.frozen? ⟨g,j,none⟩=false:=by
 obtain⟨a,c',e,_⟩:=h.Le;injection e with e1 e2 e3;subst e2;exact⟨acL.ownsRow.cellAt h j aa,acL.ownsRow.frozenAt h j⟩
variable{w:acL}{K:Nat->Prop}{F:DF}{ap ab:Option Addr}{N cp cb:Nat}
def pW (h:pU w K F ap N cp ab cb)(hK:∀n,K n->n<w.heap.size)(X v:Nat)(hx:X<67968)(hz:F.z (X/64)=true)(hv:v<256):Calls prog 68 #[qm F.size ap N cp ab cb,vi X,vb v] w λe w'=>∃u,e=.returned u/\Je w' K u (F.turn X v)/\acN w.heap.size w w':=by
 have H:=az h;have Nf:=az hK;have HS:=az h.small;have je:=az h.len;obtain⟨P,hP⟩:∃P,P=X/64:=⟨_,rfl⟩;obtain⟨R,hR⟩:∃R,R=X%64:=⟨_,rfl⟩;have GY:Hid (P=X/64/\R=X%64/\P<1062/\R<64):=az ⟨hP,hR,aa,aa⟩;rw[<-hP]at hz;have q1:(X:Int).tdiv 64=(P:Int):=by rw[ae3 aa];omega
 have q2:(X:Int).tmod 64=(R:Int):=by rw[afq aa];omega
 have q3:(X:Int)/64=(P:Int):=aa;have q4:(X:Int)%64=(R:Int):=aa;have q5:adk.wrap (P:Int)=(P:Int):=adl _ aa;have q6:adk.wrap (R:Int)=(R:Int):=adl _ aa;have HV:=az hv;have XL:=BX GY.o.2.2.1 hz;obtain⟨j,hj⟩:∃j,j=(pre F.z P).length:=⟨_,rfl⟩;rw[<-hj]at XL;have HJ:Hid ((pg F.z)[j]?=some P/\j<N/\j=(pre F.z P).length/\F.z P=true):=az ⟨XL.1,by rw[<-je.o];exact XL.2,hj,hz⟩;have HIX:Hid (ix F.z P=(j:Int)):=az (by unfold ix;rw[if_pos hz,hj]);clear h hK hP hR hx hz hv XL hj;obtain⟨sz,hsz⟩:∃s,s=F.size:=⟨_,rfl⟩;rw[<-hsz];have jS:=az hsz
 clear hsz;obtain⟨bs,hbs⟩:=H.o.rows;have Lh:=az hbs;have lK:Hid (bs.length=N):=az (by rw[hbs.2.1,abT,je.o]);clear hbs;unfold qm;go_in;go_upto_region 1 with fail;refine uV λw1 fV _=>?_
 obtain⟨x,hx⟩:∃x,x=w.heap.size:=⟨_,rfl⟩;rw[<-hx]at fV ⊢;clear hx;generalize x+1=r at*;have HAT:Hid (∀n:Sub w1,Calls prog 69 #[.agg #[vi 64,vi sz,.slice ap N cp,.slice ab N cb],vi P] n.w λe w'=>e=.returned (vi (j:Int))/\acN n.w.heap.size n.w w'):=az (λn=>by
  have h1:=pG (w:=n.w) (H.o.old (fV.o.dW.trans (n.below.mono fV.o.dW.size))) P GY.o.2.2.1
  rw[HIX.o,<-jS.o]at h1
  exact h1)
 have x0:=Sub.cell (W:=w1) (a:=⟨x,0,none⟩) (v:=vi 64) (fV.o.bx.cell 0);have x1:=Sub.cell (W:=w1) (a:=⟨x,1,none⟩) (v:=vi sz) (fV.o.bx.cell 1);have x2:=Sub.cell (W:=w1) (a:=⟨x,2,none⟩) (v:=.slice ap N cp) (fV.o.bx.cell 2);have x3:=Sub.cell (W:=w1) (a:=⟨x,3,none⟩) (v:=.slice ab N cb) (fV.o.bx.cell 3);refine aZ ah ah ?_;repeat (go_big_quiet_step (exact fM (HAT.o _)))
 refine wpQuiet_nil ?_;rintro _ ⟨nq,rfl⟩;have HS2:=az (fV.o.old nq.below);clear x0 x1 x2 x3 HAT fV;generalize nq.w=W2 at*;clear nq;have HJN:Hid (j<bs.length):=az (by rw[lK.o];exact HJ.o.2.1);obtain⟨a,c,hbj,⟨hrow,_⟩,Dv,Uw⟩:=Lh.o.2.2 j (row F.b P) (by rw[aeX,HJ.o.1];rfl);have Dw:=az (hrow.below HS2.o.dW);obtain⟨b,o,hab,c1⟩:∃b o,ab=some ⟨b,o,none⟩/\W2.cell? ⟨b,o+j,none⟩=some (.slice a 64 c):=by
  rcases Lh.o.1 with⟨_,h0,_⟩|⟨b,o,h0,_,h1⟩;have:=HJN.o;rw[h0]at this;simp at this;exact⟨b,o,h0,cell_below ((h1 j HJN.o).trans hbj) HS2.o.dW⟩
 subst hab;obtain⟨L,hL⟩:∃L,L=row F.b P:=⟨_,rfl⟩;rw[<-hL]at Dw Dv;have HL:Hid (L=row F.b P/\L.length=64):=az ⟨hL,Dv⟩;have HLS:Hid (∀y∈L,y<256):=az Dw.o.small;clear hL Dv hrow hbj Uw;obtain⟨v8,w3,ha8,QY,S3,hg8⟩:=jP HS2.o underlying23 mW rfl aa (aR.nil W2 w.heap.size 5) ag (c:=c) (kT.bytes Dw.o) Li (by simp;have:=HL.o.2;omega) (m:=64) (by rw[abT,HL.o.2]);rw[afl]at QY;obtain⟨g8,c8,rfl,aiy,hc8⟩:=QY.some_ (by rw[abT,HL.o.2];omega);rw[abT,HL.o.2]at ha8 QY hc8;have RA:=az ha8;have EW:=az QY
 have GL:=az S3;have HC8:=az hc8;clear ha8 QY S3 hg8 aiy hc8;have x3:W2.cell? ⟨x,3,none⟩=some (.slice (some ⟨b,o,none⟩) N cb):=HS2.o.bx.cell 3;have n1:(j:Int)<(N:Int):=by have:=HJ.o.2.1;omega
 go_upto_region 4 with (at_builtin;refine wpList_append_run rfl (.tmp 16) (.tmp 21) rfl rfl rfl RA.o.run ?_);clear x3 c1;have x0:w3.cell? ⟨x,0,none⟩=some (vi 64):=GL.o.bx.cell 0;have hc3:=aR.cell EW.o (j:=R) (by rw[abT,HL.o.2];exact GY.o.2.2.2);rw[aeX,aaj (by rw[HL.o.2];exact GY.o.2.2.2)]at hc3;obtain⟨c3,z3⟩:=hc3;simp only[Option.map_some]at c3;generalize L[R]'(by rw[HL.o.2];exact GY.o.2.2.2)=old at*;have hput:=aR.put EW.o R (vb v);rw[<-List.map_set]at hput;have HO4:=az hput.1;have vB:=az (GL.o.grown EW.o ag aj hput.2)
 have n2:(R:Int)<64:=by have:=GY.o.2.2.2;omega
 clear hput;go_upto_region 5 with fail;clear x0 c3 z3 EW GL;generalize w3.setCell ⟨g8,R,none⟩ (vb v)=w4 at*;have aep:Hid (iM w4 (some ⟨b,o,none⟩) cb bs):=az (Lh.o.1.old vB.o.dW);obtain⟨v9,w5,ha9,ho9,S5,TI⟩:=jP vB.o underlying32 fT rfl aa (aR.nil w4 w.heap.size 23) ag (c:=cb) aep.o.toV (Rows.one_cell Lh.o.2) (by rw[lK.o];have:=HS.o;simp;omega) (m:=N) lK.o.symm;rw[afl]at ho9;have i9:=aR.other HO4.o (aR.nil w4 w.heap.size 23) ag TI;obtain⟨g9,c9,rfl,aiA,ZB⟩:=ho9.some_ (by have:=HJN.o;omega);rw[lK.o]at ha9 ho9 ZB;have RB:=az ha9
 have Dk:=az ho9;have mY:=az S5;have aeq:=az i9;clear ha9 ho9 S5 TI aiA i9;clear ZB;have x3:w4.cell? ⟨x,3,none⟩=some (.slice (some ⟨b,o,none⟩) N cb):=vB.o.bx.cell 3;have y3:w5.cell? ⟨x,3,none⟩=some (.slice (some ⟨b,o,none⟩) N cb):=mY.o.bx.cell 3;have f3:=mY.o.bx.frozen 3;go_upto_region 7 with (at_builtin;refine wpList_append_run rfl (.tmp 30) (.tmp 32) rfl rfl rfl RB.o.run ?_);have xG:=az (mY.o.abg 3 (.slice (some ⟨g9,0,none⟩) N c9));have CW:=az (aR.iW Dk.o mY.o.bx ag 3 (.slice (some ⟨g9,0,none⟩) N c9));have aer:=az (aR.iW aeq.o mY.o.bx ag 3 (.slice (some ⟨g9,0,none⟩) N c9))
 clear x3 y3 f3 mY Dk aeq vB HO4 aep;generalize w5.setCell ⟨x,3,none⟩ (.slice (some ⟨g9,0,none⟩) N c9)=w6 at*;have x3:w6.cell? ⟨x,3,none⟩=some (.slice (some ⟨g9,0,none⟩) N c9):=xG.o.bx.cell 3;have hc6:=aR.cell CW.o HJN.o;rw[aaj HJN.o]at hc6;obtain⟨c6,z6⟩:=hc6;generalize bs[j]'HJN.o=anu at*;have hput:=aR.put CW.o j (.slice (some ⟨g8,0,none⟩) 64 c8);have QT:=az hput.1;have mZ:=az (xG.o.grown CW.o ag aj hput.2);have aiB:=az (aR.other aer.o CW.o ag hput.2);clear hput;go_upto_region 8 with fail;clear x3 c6 z6 CW xG aer
 generalize w6.setCell ⟨g9,j,none⟩ (.slice (some ⟨g8,0,none⟩) 64 c8)=w7 at*;obtain⟨x0,x1,x2,x3,g0,g1,g2,g3,f0,f1,f2,f3⟩:=mZ.o.Ut;have mV:=az ((((mZ.o.cO 0 (vi 64)).cO 1 (vi sz)).cO 2 (.slice ap N cp)).cO 3 (.slice (some ⟨g9,0,none⟩) N c9));have HOA:=az (aR.iW (aR.iW (aR.iW (aR.iW QT.o mZ.o.br ag 0 (vi 64)) (mZ.o.cO 0 (vi 64)).br ag 1 (vi sz)) ((mZ.o.cO 0 (vi 64)).cO 1 (vi sz)).br ag 2 (.slice ap N cp)) (((mZ.o.cO 0 (vi 64)).cO 1 (vi sz)).cO 2 (.slice ap N cp)).br ag 3 (.slice (some ⟨g9,0,none⟩) N c9));have ZC:=az (aR.iW (aR.iW (aR.iW (aR.iW aiB.o mZ.o.br ag 0 (vi 64)) (mZ.o.cO 0 (vi 64)).br ag 1 (vi sz)) ((mZ.o.cO 0 (vi 64)).cO 1 (vi sz)).br ag 2 (.slice ap N cp)) (((mZ.o.cO 0 (vi 64)).cO 1 (vi sz)).cO 2 (.slice ap N cp)).br ag 3 (.slice (some ⟨g9,0,none⟩) N c9))
 go_wp2_with fail;refine bodyPost_ret (kH mV.o.br _ rfl) rfl ⟨_,rfl,?_,mV.o.dW⟩;have hlt:∀n,K n->n<w.heap.size:=Nf.o;refine⟨ap,N,cp,some ⟨g9,0,none⟩,c9,by unfold qm;rw[jS.o];rfl,?_⟩;obtain⟨a',c',e9,Py⟩:=HOA.o.Du;injection e9 with XH e92 XI;subst XH XI;have wT:=aR.zu (l:=L.set R v) ZC.o (λy hy=>by
  rcases List.mem_or_eq_of_mem_set hy with hy|rfl
  exact HLS.o y hy
  exact HV.o)
 refine⟨H.o.ok.turn (by rw[<-GY.o.1];exact HJ.o.2.2.2) HV.o,H.o.len,H.o.aB.old mV.o.dW,H.o.Uq.old mV.o.dW,⟨_,Py,?_⟩,Off.own HOA.o hlt⟩;have hset:=Rows.set (Lh.o.2.old mV.o.dW) (j:=j) wT.1 (Off.own ZC.o hlt) (by rw[List.length_set,HL.o.2]) HC8.o;have htr:=Pz (z:=F.z) (b:=F.b) (x:=X) (v:=v) (by rw[<-GY.o.1];exact GY.o.2.2.1) (by rw[<-GY.o.1];exact HJ.o.2.2.2);rw[<-GY.o.1,<-GY.o.2.1,<-HJ.o.2.2.1,<-HL.o.1]at htr;rw[htr]at hset;exact hset
def rd (F:DF)(aF n:Nat):List Nat:=(ac9 n).map λi=>F.b (aF+i)
def Nq (F:DF)(aF n:Nat):rd F aF (n+1)=rd F aF n++[F.b (aF+n)]:=by
 unfold rd;rw[List.range_succ,aef];rfl
def cnt (F:DF)(aF n:Nat):Nat:=min n (F.size-aF)
def Ux (aF n:Int)(ho: -9223372036854775808<=aF/\aF<=9223372036854775807)(hb:aF<0\/n<0\/1024<n):Calls prog 43 #[qm F.size ap N cp ab cb,vi aF,vi n] w λe w'=>e=.returned (.tuple #[aco none 0 0,vi 1])/\acN w.heap.size w w':=by
 have HB1:Hid (acN w.heap.size w (w.alloc (.cells #[vi 64,vi F.size,aco ap N cp,aco ab N cb] 34))):=az ax;generalize F.size=sz at*;unfold qm;by_cases h1:aF<0
 ·clear hb;go_in;go_wp2;go_ret2;exact⟨rfl,HB1.o⟩
 by_cases h2:n<0
 ·clear hb;go_in;go_wp2;go_ret2;exact⟨rfl,HB1.o⟩
 have h3:(1024:Int)<n:=aa;clear hb;go_in;go_wp2;go_ret2;exact⟨rfl,HB1.o⟩
def Read_any (h:pU w K F ap N cp ab cb)(aF n:Nat)(hoff:aF<9223372036854775808)(hn:n<=1024):Calls prog 43 #[qm F.size ap N cp ab cb,vi aF,vi n] w λe w' =>
  ∃v,e=.returned (.tuple #[v,vi 0])/\aR w' w.heap.size 5 v ((rd F aF (cnt F aF n)).map vb)/\acN w.heap.size w w':=by
 have H:=az h;have jS:Hid (F.size<=67968):=az h.ok.size;clear h;obtain⟨sz,hsz⟩:∃s,F.size=s:=⟨_,rfl⟩;have HS:=az hsz;rw[hsz]at jS ⊢;have hs6:=jS.o;clear hsz;unfold qm;have n0:¬(aF:Int)<0:=aa;have n1:¬(n:Int)<0:=aa;have n2:¬(1024:Int)<(n:Int):=aa;go_in;go_upto_region 1 with fail;refine mD λw1 HB1 lD=>?_
 obtain⟨x,hx⟩:∃x,x=w.heap.size:=⟨_,rfl⟩;rw[<-hx]at lD ⊢;clear hx;go_wp2_with fail;go_loopg [8,9] n (λk v8 v9 wr=>∃i:Nat,v9=vi i/\i<=n/\n-i<=k/\(i=0\/aF+i<=sz)/\Hid (aR wr w.heap.size 5 v8 ((rd F aF i).map vb)/\acN w.heap.size w wr/\aD wr x 34 #[vi 64,vi sz,.slice ap N cp,.slice ab N cb]))
 case atStart=>exact⟨0,rfl,Nat.zero_le _,aa,.inl rfl,az ⟨acL.ownsRow_nil _ _ _ _,HB1.o,lD.o⟩⟩
 case round =>
  obtain⟨i,rfl,hin,hik,hio,hrd⟩:=hrel;have bK:=az hrd.o;clear hrd;have y0:wr.cell? ⟨x,0,none⟩=some (vi 64):=bK.o.2.2.cell 0;have y1:wr.cell? ⟨x,1,none⟩=some (vi sz):=bK.o.2.2.cell 1;have q1:adk.wrap ((sz:Int)-(i:Int))=(sz:Int)-(i:Int):=adl _ aa;by_cases hlt:i<n
  ·have a1:(i:Int)<(n:Int):=aa;by_cases hof:aF+i<sz
   ·have a2:(aF:Int)<(sz:Int)-(i:Int):=aa;obtain⟨oi,hoi⟩:∃oi,oi=aF+i:=⟨_,rfl⟩;have q2:adk.wrap ((aF:Int)+(i:Int))=(oi:Int):=by rw[adl _ aa];omega
    obtain⟨P,hP2⟩:∃P:Nat,P=(aF+i)/64:=⟨(aF+i)/64,rfl⟩;obtain⟨R,hR2⟩:∃R:Nat,R=(aF+i)%64:=⟨(aF+i)%64,rfl⟩;have HRR:Hid (R=(aF+i)%64/\R<64):=az ⟨hR2,aa⟩;have p1:(oi:Int).tdiv 64=(P:Int):=by rw[ae3 aa];omega
    have p2:(oi:Int).tmod 64=(R:Int):=by rw[afq aa];omega
    have p3:(oi:Int)/64=(P:Int):=aa;have p4:(oi:Int)%64=(R:Int):=aa;have p5:adk.wrap (P:Int)=(P:Int):=adl _ aa;have p6:adk.wrap (R:Int)=(R:Int):=adl _ aa;clear hR2 hoi;have AR:=az hP2;have y2:wr.cell? ⟨x,2,none⟩=some (.slice ap N cp):=bK.o.2.2.cell 2;have y3:wr.cell? ⟨x,3,none⟩=some (.slice ab N cb):=bK.o.2.2.cell 3;clear hP2;have HAT:Hid (∀n:Sub wr,Calls prog 69 #[.agg #[vi 64,vi sz,.slice ap N cp,.slice ab N cb],vi P] n.w λe w'=>e=.returned (vi (ix F.z P))/\acN n.w.heap.size n.w w'):=az (λn=>by
     have h1:=pG (w:=n.w) (H.o.old (bK.o.2.1.trans (n.below.mono bK.o.2.1.size))) P (by rw[AR.o];omega)
     rw[HS.o]at h1
     exact h1)
    obtain⟨I,hI⟩:∃I:Int,ix F.z P=I:=⟨_,rfl⟩;rw[hI]at HAT;have HI:=az hI;have ig:Hid (i<n/\aF+i<sz):=az ⟨hlt,hof⟩;clear hI hlt hof hio hin;go_upto_region 7 with fail;go_cut [10] from 34 to 62 (λv10 wx=>v10=vi I/\Hid (acN wr.heap.size wr wx))
    case first =>
     have y0:=Sub.cell y0;have y1:=Sub.cell y1;have y2:=Sub.cell y2;have y3:=Sub.cell y3;refine aZ ah ah ?_;repeat (go_big_quiet_step (exact fM (HAT.o _)))
     refine wpQuiet_nil ?_;rintro _ ⟨nq,rfl⟩;have Ar:=az nq.below;go_wp2;go_meet;exact⟨rfl,Ar⟩
    case rest =>
    obtain⟨rfl,hcut⟩:=hcut;have HOW:=az (aR.old bK.o.1 hcut.o);have uz:Hid (acN w.heap.size w wc):=az (bK.o.2.1.trans (hcut.o.mono bK.o.2.1.size));have Dq:=az (bK.o.2.2.old hcut.o);clear hcut HAT bK y0 y1 y2 y3;generalize wc=w5 at*;have hw5:=uz.o.size;have Dx:=HOW.o;obtain⟨v8a,v8c,hv8,_⟩:=Dx.Le;subst hv8;rw[abT]at HOW ⊢;clear Dx;cases hz:F.z P with
    |false =>
     have hix:ix F.z P= -1:=by unfold ix;rw[if_neg (by simp[hz])]
     have hbz:F.b (aF+i)=0:=H.o.ok.zero _ (by rw[<-AR.o];exact hz);have hII:I= -1:=by rw[<-HI.o];exact hix
     have iH:Hid ((rd F aF i).map vb++[vb 0]=(rd F aF (i+1)).map vb):=az (by rw[Nq,hbz,aef];rfl);clear hix hbz hz;subst hII;obtain⟨v2,w6,ha,ho,hg⟩:=kU (c:=1) underlying23 mW rfl aa (aR.old HOW.o ((acN.refl _ w5).alloc aj (.cells #[vb 0] 5))) (kG w5 (vb 0) 5) (λu hu=>by simp at hu;rw[hu];rfl) (by have:=ig.o;unfold rd;simp;omega) (by have:=uz.o.size;simp;omega);rw[iH.o]at ho;have uC:Hid (acN w.heap.size w w6):=az ((uz.o.alloc uz.o.size _).grown hg (by have:=uz.o.size;simp;omega) (λk hk=>((aR.lt HOW.o hk).2.1)))
     have BU:Hid (aD w6 x 34 #[vi 64,vi sz,.slice ap N cp,.slice ab N cb]):=az ((Dq.o.alloc _).grown hg (bU (aR.old HOW.o ((acN.refl _ w5).alloc aj (.cells #[vb 0] 5))) (Dq.o.alloc _) ag));have RA:=az ha;have CW:=az ho;clear ha ho hg;have r2:adk.wrap ((i:Int)+1)=((i+1:Nat):Int):=by rw[adl _ (by have:=ig.o;omega)];omega
     go_wp2_with (at_builtin;refine wpList_append_run rfl (.tmp 44) (.tmp 45) rfl rfl rfl RA.o.run ?_);go_roundg (n-(i+1))
     case rel=>exact⟨i+1,by first|rfl|trivial,ig.o.1,aa,.inr (by have:=ig.o;omega),az ⟨CW.o,uC.o,BU.o⟩⟩
     case measure=>have:=ig.o;omega
    |true =>
     have XL:=BX (z:=F.z) (n:=P) (by have:=AR.o;have:=ig.o;omega) hz;obtain⟨j,hj⟩:∃j,j=(pre F.z P).length:=⟨_,rfl⟩;rw[<-hj]at XL;have hII:I=(j:Int):=by rw[<-HI.o];unfold ix;rw[if_pos hz,hj]
     obtain⟨bs,aes,abm⟩:=H.o.rows;have hbl:bs.length=N:=by rw[abm.1,abT,H.o.len]
     have Gi:j<N:=by rw[<-H.o.len];exact XL.2
     obtain⟨a,c,hbj,⟨hrow,_⟩,Dv,Uw⟩:=abm.2 j (row F.b P) (by rw[aeX,XL.1];rfl);obtain⟨b2,o2,abn,c2,hy⟩:=(hrow.below uz.o).lookup (k:=R) (by rw[Dv];exact HRR.o.2);rw[sZ _ _ HRR.o.2,show 64*P+R=aF+i by have:=AR.o;have:=HRR.o.1;omega]at c2 hy;obtain⟨b,o,hab,c1⟩:∃b o,ab=some ⟨b,o,none⟩/\w5.cell? ⟨b,o+j,none⟩=some (.slice a 64 c):=by
      rcases aes with⟨_,h0,_⟩|⟨b,o,h0,_,h1⟩;rw[h0]at hbl;simp at hbl;omega;exact⟨b,o,h0,cell_below ((h1 j aa).trans hbj) uz.o⟩
     subst hab abn hII;obtain⟨y,hyy⟩:∃y,y=F.b (aF+i):=⟨_,rfl⟩;rw[<-hyy]at c2 hy;have iH:Hid ((rd F aF i).map vb++[vb y]=(rd F aF (i+1)).map vb):=az (by rw[Nq,<-hyy,aef];rfl);have n5:(j:Int)<(N:Int):=aa;have n6:(R:Int)<64:=by have:=HRR.o.2;omega
     have n7:¬(j:Int)<0:=aa;clear XL hj hz hbl Gi hbj hrow Dv Uw aes abm hyy hy;obtain⟨v2,w6,ha,ho,hg⟩:=kU (c:=1) underlying23 mW rfl aa (aR.old HOW.o ((acN.refl _ w5).drew.alloc aj (.cells #[vb y] 5))) (kG w5.drew (vb y) 5) (λu hu=>by simp at hu;rw[hu];rfl) (by have:=ig.o;unfold rd;simp;omega) (by have:=uz.o.size;simp;omega);rw[iH.o,afs]at*;have uC:Hid (acN w.heap.size w w6):=az ((uz.o.drew.alloc uz.o.size _).grown hg (by have:=uz.o.size;simp;omega) (λk hk=>((aR.lt HOW.o hk).2.1)));have BU:Hid (aD w6 x 34 #[vi 64,vi sz,.slice ap N cp,.slice (some ⟨b,o,none⟩) N cb]):=az ((aD.alloc (w:=w5.drew) Dq.o.drew _).grown hg (bU (aR.old HOW.o ((acN.refl _ w5).drew.alloc aj (.cells #[vb y] 5))) (aD.alloc (w:=w5.drew) Dq.o.drew _) ag))
     have RA:=az ha;have CW:=az ho;clear ha ho hg;have r2:adk.wrap ((i:Int)+1)=((i+1:Nat):Int):=by rw[adl _ (by have:=ig.o;omega)];omega
     have y0:w5.cell? ⟨x,0,none⟩=some (vi 64):=Dq.o.cell 0;have y3:w5.cell? ⟨x,3,none⟩=some (.slice (some ⟨b,o,none⟩) N cb):=Dq.o.cell 3;have z0:w6.cell? ⟨x,0,none⟩=some (vi 64):=BU.o.cell 0;have z3:w6.cell? ⟨x,3,none⟩=some (.slice (some ⟨b,o,none⟩) N cb):=BU.o.cell 3;go_upto_region 10 with fail;go_region_law (refine jH (.tmp 47) (.tmp 61) RA.o (by rfl) (by rfl) (by go_simp) (by go_simp) ?_);all_goals
      go_wp2_with fail;go_roundg (n-(i+1))
      case rel=>exact⟨i+1,by first|rfl|trivial,ig.o.1,aa,.inr (by have:=ig.o;omega),az ⟨CW.o,uC.o,BU.o⟩⟩
      case measure=>have:=ig.o;omega
   have a2:¬(aF:Int)<(sz:Int)-(i:Int):=aa;have hc:cnt F aF n=i:=by unfold cnt;rw[HS.o];omega
   go_wp2;go_ret2;exact⟨_,rfl,bK.o.1,bK.o.2.1⟩
  have a1:¬(i:Int)<(n:Int):=aa;have hc:cnt F aF n=i:=by unfold cnt;rw[HS.o];omega
  go_wp2;go_ret2;exact⟨_,rfl,bK.o.1,bK.o.2.1⟩
end df
namespace po
open pl
section
variable{p p':Po}{is:Nat->PI.bF}
structure Uy (p:Po)(is:Nat->PI.bF)(j n:Nat)(p':Po)(i':PI.bF):Prop where
 fam:o6 p' (bW is j i')
 at_:∀m,p'.at_ i' m=if m=n then 0 else p.at_ (is j) m
 cont:∀j' m,¬(j'=j/\m=n)->p'.cont (bW is j i' j') m=p.cont (is j') m
 uh:∀j' m,j'≠j->p'.at_ (is j') m=p.at_ (is j') m
 tab:∀x:Nat,x<=p.T->p'.get x=p.get x
 vC:p'.T=p.T/\p'.P=p.P/\p'.I=p.I/\(p'.B,p'.G)=(p.B,p.G)
 ino:i'.aL=(is j).aL/\i'.links=(is j).links/\i'.size=(is j).size
 has:MP.has p.U (p.at_ (is j) n:Nat)=true
 wfp:(p.free (p.at_ (is j) n:Nat)).wfp (is j)
 may:(p.free (p.at_ (is j) n:Nat)).BC (is j) n 0
def Po.XM (h:o6 p is)(j n:Nat)(hn:n<1062)(hx:p.at_ (is j) n≠0):Uy p is j n ((p.free (p.at_ (is j) n:Nat)).set (is j) n 0).1 ((p.free (p.at_ (is j) n:Nat)).set (is j) n 0).2:=by
 obtain⟨x,AV⟩:∃x,x=p.at_ (is j) n:=⟨_,rfl⟩;rw[<-AV]at hx ⊢;have hu:MP.has p.U x=true:=by rw[AV];exact h.used (j:=j) (s:=.dat n) (by show p.at_ (is j) n≠0;rw[<-AV];exact hx)
 have hne:∀j' s,¬(j'=j/\s=.dat n)->p.slot (is j') s≠0->p.slot (is j') s≠x:=λj' s e e1 e2=>e (h.sep.inj j' s j (.dat n) e1 (e2.trans AV));have hok:(p.free (x:Int)).ok:=h.ok.free;have hhas:∀y:Nat,MP.has (p.free (x:Int)).U y=if y=x then false else MP.has p.U y:=λy=>by
  show MP.has (MP.del p.U x) y=_;rw[jN h.ok.MQ];by_cases e:y=x;rw[if_pos aa,if_pos e];rw[if_neg aa,if_neg e]
 have hget:∀y:Nat,y≠x->(p.free (x:Int)).get y=p.get y:=λy hy=>Po.I5 h.ok aa;have pQ:(p.free (x:Int)).T=p.T/\(p.free (x:Int)).P=p.P/\(p.free (x:Int)).I=p.I/\((p.free (x:Int)).B,(p.free (x:Int)).G)=(p.B,p.G):=⟨rfl,rfl,rfl,rfl⟩;generalize hp1:p.free (x:Int)=p1 at*;have hsl:∀j' s,p1.slot (is j') s=p.slot (is j') s:=λj' s=>by
  refine Po.mQ (λe=>hget _ (hne j' .one ai e)) (λe=>hget _ (hne j' .lQ ai e)) (λk hk e=>hget _ ?_) s;have:=hne j' (.sec k) ai;rw[Po.dJ,if_pos hk]at this;exact this e
 have S:=h.sep.del (j:=j) (s:=.dat n) (y:=x) AV.symm hx hhas;have hw:wants (upd (λj s=>p.slot (is j) s) j (.dat n) 0 j) n=0:=by
  have hF:=h.full j;have h0:∀σ:Slot->Nat,Full σ->σ (.dat n)≠0->wants σ n=0:=λσ F e=>by
   unfold wants;by_cases c1:n<6;rw[if_pos c1];rw[if_neg c1];by_cases c2:n<38;rw[if_pos c2,if_neg];intro e1;have:=F.one.1 e1 (n-6) aa;rw[show 6+(n-6)=n by omega]at this;exact e this;rw[if_neg c2];have e3:σ (.sec ((n-38)/32))≠0:=λe1=>by
    have:=(F.sec _ aa).1 e1 ((n-38)%32) aa;rw[show 38+32*((n-38)/32)+(n-38)%32=n by omega]at this;exact e this
   have e2:σ .lQ≠0:=λe1=>e3 (F.lQ.1 e1 _ aa)
   rw[if_neg e2,if_neg e3]
  rw[yR (σ:=p.slot (is j)) (aG _ _ ai) (aG _ _ ai) (λk=>aG _ _ ai)];exact h0 _ hF (by show p.at_ (is j) n≠0;rw[<-AV];exact hx)
 have hroom:(0:Int)<=p1.aK:=by
  have:=hok.W9;unfold Po.aK;omega
 obtain⟨σ',E⟩:=Po.Ng hok (is:=is) (j:=j) (v:=0) hn aa (h.six j) S (λj' s e=>by rw[aG _ _ e];exact hsl j' s) (cK _ _ _ _) (λy hy=>by
  rw[hhas]at hy
  by_cases e:y=x
  rw[if_pos e]at hy;cases hy
  rw[if_neg e]at hy
  rw[hget y e]
  exact h.row y hy) (by rw[hw];exact hroom)
 generalize (p1.set (is j) n 0).1=p2 at*;generalize (p1.set (is j) n 0).2=i2 at*;have hat:∀j' m,p2.at_ (bW is j i2 j') m=upd (λj s=>p.slot (is j) s) j (.dat n) 0 j' (.dat m):=λj' m=>(E.slot j' (.dat m)).trans (E.dat j' m);have hgood:∀s,s≠ .dat n->p1.good (p1.slot (is j) s):=λs hs=>by
  rw[hsl j s];refine⟨(h.good j s).1,λe=>Po.cz.2 ?_⟩;rw[hhas,pQ.1,if_neg (hne j s (λc=>hs c.2) e)];exact Po.cz.1 ((h.good j s).2 e)
 refine⟨E.fam h.six ((h.full j).aF n λs hs=>aG _ _ (λe=>hs e.2)) (λj' hj=>?_),λm=>?_,λj' m e=>?_,λj' m hj=>?_,λy hy=>?_,?_,⟨E.ino.1,E.ino.2.1,E.ino.2.2.1⟩,by rw[<-AV];exact hu,?_,by rw[<-AV,hp1];exact E.may⟩;rw[show upd (λj s=>p.slot (is j) s) j (.dat n) 0 j'=p.slot (is j') from funext λs=>aG _ _ (λe=>hj e.1)];exact h.full j';have:=hat j m;rw[aS]at this;rw[this];by_cases e:m=n;rw[if_pos e,e,cK];rw[if_neg e,aG _ _ (by simp[e])];rfl;have e2:¬(j'=j/\Slot.dat m=Slot.dat n):=λh=>e ⟨h.1,by injection h.2⟩;unfold Po.cont
 rw[hat j' m,aG _ _ e2];show (if p.at_ (is j') m=0 then zs else p2.get (p.at_ (is j') m:Nat))=_;by_cases e3:p.at_ (is j') m=0;rw[if_pos e3,if_pos e3];have e4:p1.get (p.at_ (is j') m:Nat)=p.get (p.at_ (is j') m:Nat):=hget _ (hne j' (.dat m) e2 e3);have e5:p2.get (p.at_ (is j') m:Nat)=p1.get (p.at_ (is j') m:Nat):=E.get _ (.inr ⟨j',m,aG _ _ e2,e3⟩);rw[if_neg e3,if_neg e3,e5,e4];have:=hat j' m;rw[aV _ _ hj,aG _ _ (λe=>hj e.1)]at this;exact this;have h1:=Po.dF.1 (h.ok.jf _ hu);rw[E.get y (.inl (by rw[pQ.1];exact hy)),hget y aa];exact⟨E.vC.1.trans pQ.1,E.vC.2.1.trans pQ.2.1,E.vC.2.2.1.trans pQ.2.2.1,E.vC.2.2.2.trans pQ.2.2.2⟩
 rw[<-AV,hp1];refine⟨h.six j,hgood .lQ ai,λk hk=>⟨?_,trivial⟩⟩;have:=hgood (.sec k) ai;rwa[Po.dJ,if_pos hk]at this
end
structure qo (p0:Po)(is:Nat->PI.bF)(j:Nat)(gone:List Nat)(p:Po)(i:PI.bF):Prop where
 fam:o6 p (bW is j i)
 at_:∀n,p.at_ i n=if n∈gone then 0 else p0.at_ (is j) n
 keep:∀n,n ∉ gone->p.cont i n=p0.cont (is j) n
 oat:∀j' m,j'≠j->p.at_ (is j') m=p0.at_ (is j') m
 cont:∀j' m,j'≠j->p.cont (is j') m=p0.cont (is j') m
 tab:∀x:Nat,x<=p0.T->p.get x=p0.get x
 vC:p.T=p0.T/\p.P=p0.P/\p.I=p0.I/\(p.B,p.G)=(p0.B,p0.G)
 ino:i.aL=(is j).aL/\i.links=(is j).links/\i.size=(is j).size
variable{is:Nat->PI.bF}
def qo.start {p:Po}(h:o6 p is)(j:Nat):qo p is j [] p (is j) :=
 ⟨by rw[oK];exact h,λn=>by rw[if_neg ai],λ_ _=>rfl,λ_ _ _=>rfl,λ_ _ _=>rfl,λ_ _=>rfl,⟨rfl,rfl,rfl,rfl⟩,⟨rfl,rfl,rfl⟩⟩
def qo.step {p0 p:Po}{j:Nat}{gone:List Nat}{i:PI.bF}(W:qo p0 is j gone p i){n:Nat}(hn:n<1062)(hx:p.at_ i n≠0) :
  Uy p (bW is j i) j n ((p.free (p.at_ i n:Nat)).set i n 0).1 ((p.free (p.at_ i n:Nat)).set i n 0).2/\qo p0 is j (gone++[n]) ((p.free (p.at_ i n:Nat)).set i n 0).1 ((p.free (p.at_ i n:Nat)).set i n 0).2:=by
 have hself:bW is j i j=i:=aS _ _ _;have G:=Po.XM W.fam j n hn (by rw[hself];exact hx);rw[hself]at G;refine⟨G,?_⟩;have hf:=G.fam;rw[Nk]at hf;generalize ((p.free (p.at_ i n:Nat)).set i n 0).1=p1 at*;generalize ((p.free (p.at_ i n:Nat)).set i n 0).2=i1 at*;refine⟨hf,λm=>?_,λm hm=>?_,λj' m hj=>?_,λj' m hj=>?_,λx hx=>?_,?_,?_⟩;rw[G.at_,hself,W.at_];by_cases e:m=n;rw[if_pos e,if_pos (by rw[e];simp)];rw[if_neg e];by_cases e2:m∈gone;rw[if_pos e2,if_pos (by simp[e2])];rw[if_neg e2,if_neg (by simp[e2,e])];rw[List.mem_append,List.mem_singleton,not_or]at hm
 have:=G.cont j m (λh=>hm.2 h.2);rw[aS,hself]at this;rw[this,W.keep m hm.1];have h6:=G.uh j' m hj;rw[aV _ _ hj]at h6;rw[h6,W.oat j' m hj];have h6:=G.cont j' m (λh=>hj h.1);rw[aV _ _ hj,aV _ _ hj]at h6;rw[h6,W.cont j' m hj];have e1:p.T=p0.T:=W.vC.1;rw[G.tab x (by rw[e1];exact hx),W.tab x hx];obtain⟨a1,a2,a3,a4⟩:=W.vC;obtain⟨b1,b2,b3,b4⟩:=G.vC;exact⟨b1.trans a1,b2.trans a2,b3.trans a3,b4.trans a4⟩;obtain⟨a1,a2,a3⟩:=W.ino;obtain⟨b1,b2,b3⟩:=G.ino;rw[hself]at b1 b2 b3;exact⟨b1.trans a1,b2.trans a2,b3.trans a3⟩
open RowKit mgr ft ino nd
section
variable{aA:Nat}{w w':acL}{q:Nat}{p p':Po}{K K':Nat->Prop}
def l6 (g:Nat):∀(vs:List acK) (o:Nat) (w:acL),aP (λn=>n=g) w (w.setCells g o vs)
 |[],o,w=>aP.refl _ _
 |v::vs,o,w=>(aP.set (F:=λn=>n=g) w (p:=⟨g,o,none⟩) rfl v).trans (l6 g vs (o+1) _) (λ_ _ e=>e)
def Jg {b g a c cj:Nat}{l:List Nat}(h:Own w b (.slice (some ⟨g,0,none⟩) 64 c) l)(hl:l.length=64)(hs:∀y∈l,y<256)(ha:a<64) :
  ∃w',(∀ty,(Builtin.clear_ #[23] ty #[.slice (some ⟨g,a,none⟩) (64-a) cj]).run prog w=.ok (.tuple #[]) w')/\bE w' (some ⟨g,0,none⟩) (l.take a++aaA (64-a) 0)/\aP (λn=>n=g) w w':=by
 have hb:∃cur,aD w g 5 cur:=by
  rcases h.2 with⟨e,_⟩|⟨g',cap,cur,e,_,hh,_⟩;cases e;injection e with e;injection e with e;injection e with e;subst e;exact⟨cur,hh⟩
 obtain⟨cur,aet⟩:=hb;have hrow:=Own.zu h hl hs;have hcell:∀i,i<64->w.cell? ⟨g,i,none⟩=some (vb (l.getD i 0)):=λi hi=>by
  rcases hrow.at_ with e|⟨b',o',e,h1⟩;rw[e]at hl;simp at hl;injection e with e;injection e with e1 e2;subst e1 e2;have:=h1 i aa;rwa[Nat.zero_add]at this
 have hsome:∀j,j<64-a->(w.cell? ⟨g,a+j,none⟩).isSome=true:=λj hj=>by rw[hcell _ aa];rfl
 refine⟨w.setCells g a (aaA (64-a) (vb 0)),λty=>?_,⟨λy hy=>?_,.inr ⟨g,0,rfl,λi hi=>?_⟩⟩,l6 g _ _ _⟩;exact Lib.run_clear_slice w _ _ ty (vb 0) underlying23 (λw=>ah) rfl rfl g a (64-a) cj aa hsome (λj _=>aet.frozen _);rcases List.mem_append.1 hy with hy|hy;exact hs y (afp hy);rw[List.eq_of_mem_replicate hy];decide;rw[Nat.zero_add];rw[acZ,acX,abP]at hi;by_cases c:i<a;rw[acL.cell?_setCells_out g _ a w ⟨g,i,none⟩ (λ_ _=>.inl c),hcell i aa];congr 2;rw[aah,aah,List.getElem?_append_left (by rw[acX];omega),List.getElem?_take,if_pos c]
 have:=acL.cell?_setCells_in g (aaA (64-a) (vb 0)) a w (by simpa using hsome) (i-a) (by simp;omega);rw[show a+(i-a)=i by omega]at this;rw[this];simp only[List.getElem_replicate];congr 2;rw[aah,List.getElem?_append_right (by rw[acX];omega),afk];split<;>rfl
def XN {t:Nat}(h:t<=67968):∃e64 e63 kp:Nat,adk.wrap ((t:Int)+64)=(e64:Int)/\adk.wrap ((e64:Int)-1)=(e63:Int)/\(e63:Int).tdiv 64=(kp:Int)/\(e63:Int)/64=(kp:Int)/\wrap64 (kp:Int)=(kp:Int)/\adk.wrap (kp:Int)=(kp:Int)/\kp=(t+63)/64:=by
 refine⟨t+64,t+63,(t+63)/64,?_,?_,?_,aa,IntWalk.wrap64_in _ aa,adl _ aa,rfl⟩;rw[adl _ aa];omega;rw[adl _ aa];omega;rw[ae3 aa];omega
def pX (p1:Po)(i':PI.bF)(t sz:Nat):Po :=
 if p1.at_ i' (t/64)≠0/\t%64≠0/\t<sz then p1.put (p1.at_ i' (t/64):Nat) ((p1.cont i' (t/64)).take (t%64)++aaA (64-t%64) 0) else p1
def abo (aA:Nat)(w:acL)(q:Nat)(K:Nat->Prop)(p:Po)(is:Nat->PI.bF)(j t:Nat)(e:Ending)(w':acL):Prop :=
 ∃K' p1 p' i' gone,e=.returned (.tuple #[dS {i' with size:=t},vi 0])/\bG aA w q K w' K' p'/\qo p is j gone p1 i'/\(∀n,n∈gone↔n∈p.eO (is j)/\(t+63)/64<=n) /\
  p'=pX p1 i' t (is j).size
def aiE (aA:Nat)(w:acL)(q:Nat)(K:Nat->Prop)(p0:Po)(is:Nat->PI.bF)(j kp f r x:Nat)(C:Array acK)(B:Nat)(v:acK)(R:List Nat)(v51:acK)(wr:acL):Prop :=
 ∃(idx:Nat) (K':Nat->Prop) (p:Po) (i:PI.bF),v51=vi (idx:Nat)/\idx<=R.length/\Hid (zA aA w q K f r i Te wr K' p)/\Hid (qo p0 is j (R.take idx) p i)/\Hid (∀n∈R.take idx,kp<=n)/\Hid (dZ wr B v (R.map λ(n:Nat)=>(n:Int))) /\
  Hid (∀g,v.ownBlock=some g->¬K' g/\g≠f/\w.heap.size<=g)/\Hid (aD wr x 29 C/\¬K' x/\x≠f)
def dZ.on {b0:Nat}{v:acK}{l:List Int}(h:dZ w b0 v l)(g:bG aA w q K w' K' p')(hn:∀g,v.ownBlock=some g->¬K g):dZ w' b0 v l/\∀g,v.ownBlock=some g->¬K' g :=
 ⟨h.aJ g.aJ hn,λb e e2=>by
  rcases g.foot b e2 with h1|h1
  exact hn b e h1
  have:=(h.lt e).1;omega⟩
def Uz {l:List Nat}{a:Nat}(h:l.length=64)(ha:a<64):(l.take a++aaA (64-a) 0).length=64:=by
 rw[acZ,acX,abP];omega
def PD {t:Nat}(h:t<=67968):∃tq tr:Nat,(t:Int).tdiv 64=(tq:Int)/\(t:Int)/64=(tq:Int)/\wrap64 (tq:Int)=(tq:Int)/\adk.wrap (tq:Int)=(tq:Int)/\(t:Int).tmod 64=(tr:Int)/\(t:Int)%64=(tr:Int)/\(0:Int)<=(tr:Int)/\(tr:Int)<=64/\tr<=64 /\
  (tq=t/64/\tr=t%64/\tq<=1000000/\tr<64):=by
 refine⟨t/64,t%64,?_,aa,IntWalk.wrap64_in _ aa,adl _ aa,?_,aa,aa,aa,aa,rfl,rfl,aa,aa⟩;rw[ae3 aa];omega;rw[afq aa];omega
def Jh {L R:List Nat}{idx kp:Nat}(hR:R=L.reverse)(hp:L.Pairwise (·<·))(h1:∀n∈R.take idx,kp<=n)(h2:idx=R.length\/∃n,R[idx]?=some n/\n<kp):∀n,n∈R.take idx↔n∈L/\kp<=n:=by
 intro n;have hdec:R.Pairwise (λa b=>b<a):=by rw[hR];exact List.pairwise_reverse.2 hp
 constructor;intro h;have:n∈R:=afp h;rw[hR]at this;exact⟨List.mem_reverse.1 this,h1 n h⟩;rintro⟨h3,h4⟩;have hr:n∈R:=by rw[hR];exact List.mem_reverse.2 h3
 rcases h2 with e|⟨m,hm,hlt⟩;rw[e,List.take_length];exact hr;obtain⟨i,hi,e⟩:=List.getElem_of_mem hr;by_cases c:i<idx;rw[<-e];exact List.mem_take_iff_getElem.2 ⟨i,aa,rfl⟩;obtain⟨Df,hme⟩:=List.getElem?_eq_some_iff.1 hm;by_cases c2:i=idx;subst c2;omega;have:=(List.pairwise_iff_getElem.1 hdec) idx i Df hi aa;omega
def gq {g:Nat}{v0 v1 v2 v3 v4 v5 v6 v7 v8 v9 v10:acK}{n:Int}(hb:aD w' g 29 #[v0,v1,v2,v3,v4,v5,v6,v7,v8,v9,v10])(tmps:Array acK)(h2:tmps[6]?=some (.pointer (some ⟨g,0,none⟩)))(h3:tmps[7]?=some (vi n)) :
  (results Tryz.f23 tmps).run prog w'=.ok (.tuple #[.agg #[v0,v1,v2,v3,v4,v5,v6,v7,v8,v9,v10],vi n]) w':=by
 obtain⟨g0,g1,g2,g3,g4,g5,g6,g7,g8,g9,g10⟩:=nT hb;simp only[results,results23];simp[go_sem,h2,h3,g0,g1,g2,g3,g4,g5,g6,g7,g8,g9,g10,underlying29]
variable{k N:Nat}
def UA (h:k<N)(h2:N<=1062):adk.wrap ((k:Int)+1)=((k+1:Nat):Int):=by
 rw[adl _ aa];omega
def UB (h:k<N):N-(intOf (vi ((k+1:Nat):Int))).toNat<N-(intOf (vi (k:Int))).toNat:=by
 simp[intOf];omega
def XO {B:Nat}{a:Option Addr}{m c:Nat}{R L:List Nat}{p1:Po}{i i1:PI.bF}{W:acL}(h:dZ W B (aco a m c) (R.map λ(n:Nat)=>(n:Int)))(hR:R=L.reverse)(hm:∀n,n∈L↔n<1062/\p.at_ i n≠0)(hp:L.Pairwise (·<·))
  (hat:∀n,p1.at_ i1 n=if n∈R.take k then 0 else p.at_ i n) (hk:k<R.length) :
  ∃n:Nat,(∃b o,a=some ⟨b,o,none⟩/\W.cell? ⟨b,o+k,none⟩=some (vi n))/\R[k]?=some n/\n<1062/\p1.at_ i1 n≠0:=by
 obtain⟨a',c',he,hr,_⟩:=h.zy;injection he with he;subst he;obtain⟨b,o,ha,hc⟩:=hr.lookup (i:=k) (by rw[abT];exact hk);have hmr:R[k]∈L.reverse:=by rw[<-hR];exact List.getElem_mem hk
 have hmem:R[k]∈L:=List.mem_reverse.1 hmr;have h1:=(hm _).1 hmem;refine⟨R[k],⟨b,o,ha,?_⟩,by simp[hk],h1.1,?_⟩;rw[hc];simp[List.getD,hk];rw[hat,if_neg];exact h1.2;intro e;have hnd:R.Nodup:=by
  rw[hR];unfold List.Nodup;exact List.pairwise_reverse.2 (hp.imp (λh e=>aa))
 obtain⟨i',hi',e2⟩:=List.getElem_of_mem e;rw[acX]at hi';rw[List.getElem_take]at e2;have:=(List.pairwise_iff_getElem.1 hnd) i' k aa hk aa;exact this e2
def xW (h:PQ aA w q K p)(is:Nat->PI.bF)(hF:o6 p is)(j t:Nat)(ht:t<=67968)(hsz:(is j).size<=67968) :
  Calls prog 23 #[ptr q,dS (is j),vi t] w (abo aA w q K p is j t):=by
 obtain⟨k,hk,hkk⟩:=h.iN;have Dj:=az hk;have jU:Hid (k<w.heap.size):=az (h.lt _ hkk);have H:=az h;have HWF:=az (hF.wf j);have wD:=az (p.BR (is j));have Lj:=az (And.intro (p.mR (is j)) (And.intro (p.rT (is j)) (p.BQ (is j))));have HST:=az (qo.start hF j);have HI6:=az (hF.six j);clear hk hkk h hF hsz;generalize hii:is j=i at*;have yD:=az hii;clear hii;obtain⟨kd,ln,sz,dl,sg,db⟩:=i;obtain⟨d0,d1,d2,d3,d4,d5,hdl⟩:=six (l:=dl) HI6.o;subst hdl;simp only[dS,j4];have c1:¬(t:Int)<0:=aa;have c2:¬(67968:Int)<(t:Int):=aa;obtain⟨e64,e63,kp,B1,B2,B3,B4,B5,B6,hkp⟩:=XN ht
 have nS:=az hkp;have CX:=az ht;clear hkp ht;go_in;go_upto_region 1 with fail;refine ny λw1 HB1 lD HR1=>?_
 obtain⟨x,hx⟩:∃x,x=w.heap.size:=⟨_,rfl⟩;rw[<-hx]at lD HR1 ⊢;have Nn:=az hx;clear hx;have HSI:Hid (∀W,gD k w W->Calls prog 28 #[ptr q] W λe w'=>e=.returned (vi 64)/\w'=W):=az (λW hb=>kR (H.o.OW Dj.o hb));have vz:Hid (gD k w w1):=az (gD.of_below HB1.o);go_wp2_with fail;refine(HSI.o _ vz.o).mono ?_;rintro e w2 ⟨rfl,rfl⟩;go_wp2_with fail;refine kD.mono ?_;rintro e w3 ⟨rfl,rfl⟩;generalize hw9:w3=w9 at*;clear hw9;have KP:=lD;clear lD;obtain⟨x0,x1,x2,x3,x4,x5,x6,x7,x8,x9,JW⟩:=nT KP.o;go_upto_region 8 with fail;clear c1 c2;clear x0 x1 x3 x4 x5 x6 x7 x8 x9 JW x2
 refine mD λw8 wX TG=>?_
 have zP:=az (KP.o.old wX.o);have Ei:=az (HR1.o.old wX.o);have We:=az (vz.o.old wX.o);have Dt:Hid (w.heap.size<=w9.heap.size/\w.heap.size<=x+1/\w.heap.size<=x):=az ⟨vz.o.1.size,by have:=Nn.o;omega,by have:=Nn.o;omega⟩;generalize w9.heap.size=f at*;generalize x+1=r at*;clear KP HR1 vz wX HB1;go_wp2_with fail;refine(HSI.o _ We.o).mono ?_;rintro e w7 ⟨rfl,rfl⟩;obtain⟨y0,y1,y2,y3,y4,y5,y6,y7,y8,y9,y10⟩:=nT zP.o;have Oe:=az (oI (H.o.OW Dj.o We.o) (H.o.j6 Dj.o We.o) ⟨kd,ln,sz,[d0,d1,d2,d3,d4,d5],sg,db⟩ HWF.o);simp only[dS,j4]at Oe;rw[wD.o]at Oe
 go_wp2_with fail;refine Oe.o.mono ?_;rintro e w5 ⟨v5,rfl,jT,hq5⟩;have Dk:=az jT;have Ex:=az hq5;have HRV:=az (FX jT (by rw[abT];exact abX Lj.o.2.2 ag));clear jT hq5 Oe y0 y1 y2 y3 y4 y5 y6 y7 y8 y9 y10 B1 B2 B3 B4 B5 B6;go_wp2_with fail;refine HRV.o.mono ?_;rintro e w6 ⟨rfl,yL,hc6⟩;rw[<-List.map_reverse]at yL;obtain⟨R,hR⟩:∃R,R=(p.eO ⟨kd,ln,sz,[d0,d1,d2,d3,d4,d5],sg,db⟩).reverse:=⟨_,rfl⟩;rw[<-hR]at yL;have HRR:=az hR;clear hR;have hown:∀g,v5.ownBlock=some g->w7.heap.size<=g:=λg e=>(Dk.o.lt e).2.1
 have BU:Hid (aD w6 x 29 #[vi kd,vi ln,vi sz,vi d0,vi d1,vi d2,vi d3,vi d4,vi d5,vi sg,vi db]):=az ((zP.o.aJ Ex.o.1 (λe=>by have h1:=jU.o;have h2:=Dt.o;omega)).aJ hc6 (λe=>by have h1:=hown _ e;have h2:=zP.o.lt;omega));have HF6:=az ((TG.o.aJ Ex.o.1 (λe=>by have h1:=jU.o;have h2:=Dt.o;omega)).aJ hc6 (λe=>by have h1:=hown _ e;have h2:=TG.o.lt;omega));have GM:=az ((Ei.o.aJ Ex.o.1 (λe=>by have h1:=jU.o;have h2:=Dt.o;omega)).aJ hc6 (λe=>by have h1:=hown _ e;have h2:=Ei.o.lt;omega));have Ps:Hid (gD k w w6):=az ((We.o.trans Ex.o).far (hc6.mono (λn _ e=>abX We.o.1.size (hown n e))) jU.o)
 have xG:Hid (zA aA w q K f r (is j) Te w6 K p):=az ⟨(bM.pM H.o Dj.o Ps.o).go,by rw[yD.o];exact HF6.o,GM.o,λe=>by have h1:=H.o.lt _ e;have h2:=Dt.o;omega,λe=>by have h1:=H.o.lt _ e;have h2:=Dt.o;omega,Dt.o.1,Dt.o.2.1⟩;have UC:Hid (∀g,v5.ownBlock=some g->¬K g/\g≠f/\w.heap.size<=g):=az (λg e=>by
  have h1:=hown g e
  have h2:=TG.o.lt
  have h3:=We.o.1.size
  exact⟨λe=>by have h4:=H.o.lt _ e;omega,aa,aa⟩)
 have HXK:Hid (aD w6 x 29 #[vi kd,vi ln,vi sz,vi d0,vi d1,vi d2,vi d3,vi d4,vi d5,vi sg,vi db]/\¬K x/\x≠f):=az ⟨BU.o,λe=>by have h1:=H.o.lt _ e;have h2:=Dt.o;omega,λe=>by
  have h1:=zP.o
  rw[e]at h1
  have:=bY h1 TG.o
  revert this
  decide⟩
 obtain⟨a5,c5,hv5,_,_⟩:=yL.zy;rw[abT]at hv5;subst hv5;have CW:=az yL;have HW6:Hid (qo p is j [] p (is j)):=az (by rw[yD.o];exact HST.o);have XP:Hid (R.length<=1062):=az (by rw[HRR.o,List.length_reverse];exact Lj.o.2.2);clear yL hc6 hown zP TG Ei We Dk Ex HRV BU HF6 GM Ps HST;generalize hnl:R.length=N at*;have GK:=az hnl;clear hnl;generalize w7.heap.size=B at*;go_upto_block 1 with fail;go_cut [51] from 13 to 66 (λ_ wx=>∃(idx:Nat) (K1:Nat->Prop) (p1:Po) (i1:PI.bF),Hid (zA aA w q K f r i1 Te wx K1 p1)/\Hid (qo p is j (R.take idx) p1 i1)/\Hid (∀n,n∈R.take idx↔n∈p.eO ⟨kd,ln,sz,[d0,d1,d2,d3,d4,d5],sg,db⟩/\kp<=n)/\Hid (aD wx x 29 #[vi kd,vi ln,vi sz,vi d0,vi d1,vi d2,vi d3,vi d4,vi d5,vi sg,vi db]/\¬K1 x/\x≠f))
 case first =>
  go_wp2_with fail;go_loopw [51] (λv51 wr=>aiE aA w q K p is j kp f r x #[vi kd,vi ln,vi sz,vi d0,vi d1,vi d2,vi d3,vi d4,vi d5,vi sg,vi db] B (aco a5 N c5) R v51 wr) (λv51 _=>N-(intOf v51).toNat)
  case atStart=>exact⟨0,K,p,is j,rfl,Nat.zero_le _,xG,HW6,az (λn hn=>by simp at hn),CW,UC,HXK⟩
  case round =>
   clear xG HW6 CW UC HXK;obtain⟨idx,K1,p1,i1,rfl,hidx,HS,HW,HG,HO,HV,HX⟩:=hrel;rw[GK.o]at hidx;by_cases hlt:idx<N
   ·have n1:(idx:Int)<(N:Int):=aa;obtain⟨n,hn1,hn2,Y1,hn4⟩:=XO HO.o HRR.o Lj.o.1 Lj.o.2.1 (λn=>by have:=HW.o.at_ n;rwa[yD.o]at this) (k:=idx) (by rw[GK.o];exact hlt);obtain⟨bq,oq,haq,hcell⟩:=hn1;subst haq;have HN1:=az (And.intro hn2 (And.intro Y1 hn4));have ig:Hid (idx<N):=az hlt;clear hn2 Y1 hn4 hlt hidx;by_cases hk:n<kp
    ·have n2:(n:Int)<(kp:Int):=aa;have WY:=az (Jh HRR.o Lj.o.2.1 HG.o (.inr ⟨n,HN1.o.1,hk⟩));go_wp2;go_meet;exact⟨idx,K1,p1,i1,HS,HW,WY,HX⟩
    have n2:¬(n:Int)<(kp:Int):=aa;have Wh:Hid (kp<=n):=az (Nat.le_of_not_lt hk);clear hk;have Jb:Hid (p1.wf i1):=az (by have:=HW.o.fam.wf j;rwa[aS]at this);have HAT:=az (pG HS.o.go.at_ i1 Jb.o HS.o.file HS.o.nf n (Nat.le_of_lt (Nat.lt_of_lt_of_le HN1.o.2.1 ag)));obtain⟨G,HW2⟩:=HW.o.step HN1.o.2.1 HN1.o.2.2;have HGG:=az G;have HW2:=az HW2;clear G HW;go_wp2_with fail;refine HAT.o.mono ?_;rintro e Xy ⟨K2,rfl,hrd⟩;have Gc:=az (HS.o.on hrd.go);have abp:=az (HO.o.on hrd.go (λg e=>(HV.o g e).1));have PE:=az (hrd.go.keep HX.o.1 HX.o.2.1);have HXF:Hid (x≠f):=az HX.o.2.2
    have hal:bW is j i1 j=i1:=aS _ _ _;have g1:=HGG.o.has;have g2:=HGG.o.wfp;have g3:=HGG.o.may;rw[hal]at g1 g2 g3;clear hrd HAT HO HX HS HGG hal Jb;obtain⟨p2,i2,hpi⟩:=Ga ((p1.free (p1.at_ i1 n:Nat)).set i1 n 0);have Bv:=az hpi;rw[hpi]at HW2;clear hpi;dsimp only at HW2;obtain⟨A,hA⟩:∃A,A=p1.at_ i1 n:=⟨_,rfl⟩;rw[<-hA]at g1 g2 g3 Bv ⊢;have ZF:=az (And.intro g2 g3);have yB:=az (mG Gc.o.go.at_ (A:Int) g1);clear g1 g2 g3 hA;go_wp2_with fail;refine yB.o.mono ?_;rintro e w11 ⟨rfl,K8⟩;have xU:=az (Gc.o.on K8);have UD:=az (abp.o.1.on K8 abp.o.2)
    have UE:=az (K8.keep PE.o.1 PE.o.2);have CZ:=az (MX xU.o.go.at_ i1 ZF.o.1 xU.o.file xU.o.nf (abX H.o.low xU.o.low.1) n 0 HN1.o.2.1 ag ZF.o.2);rw[Bv.o]at CZ;dsimp only at CZ;clear K8 yB Gc abp PE;go_wp2_with fail;refine CZ.o.mono ?_;rintro e w12 ⟨rfl,K3,hgg⟩;have aba:=az (xU.o.gg hgg);have aiG:Hid (aD w12 x 29 #[vi kd,vi ln,vi sz,vi d0,vi d1,vi d2,vi d3,vi d4,vi d5,vi sg,vi db]/\¬K3 x/\x≠f):=az ⟨(hgg.keep UE.o.1 UE.o.2 HXF.o).1,(hgg.keep UE.o.1 UE.o.2 HXF.o).2,HXF.o⟩;have aiH:=az (UD.o.1.aJ hgg.aJ (λg e e2=>e2.elim (UD.o.2 g e) (HV.o g e).2.1))
    have aiI:Hid (∀g,(acK.slice (some ⟨bq,oq,none⟩) N c5).ownBlock=some g->¬K3 g/\g≠f/\w.heap.size<=g):=az (λg e=>⟨λe2=>by
     rcases hgg.foot g e2 with h1|h1
     exact UD.o.2 g e h1
     have:=(UD.o.1.lt e).1;omega,(HV.o g e).2.1,(HV.o g e).2.2⟩)
    have zQ:Hid (R.take (idx+1)=R.take idx++[n]):=az (by rw[List.take_add_one,HN1.o.1];rfl);have HG2:Hid (∀m∈R.take (idx+1),kp<=m):=az (λm hm=>by
     rw[zQ.o]at hm
     rcases List.mem_append.1 hm with h1|h1
     exact HG.o m h1
     rw[List.mem_singleton]at h1;rw[h1];exact Wh.o)
    have HW3:Hid (qo p is j (R.take (idx+1)) p2 i2):=az (by rw[zQ.o];exact HW2.o);have r2:adk.wrap ((idx:Int)+1)=((idx+1:Nat):Int):=UA ig.o XP.o;clear hgg CZ xU UD UE HV HW2 HG;go_wp2;go_roundw
    case rel=>exact⟨idx+1,K3,p2,i2,rfl,by rw[GK.o];exact ig.o,aba,HW3,HG2,aiH,aiI,aiG⟩
    case measure=>exact UB ig.o
   have n1:¬(idx:Int)<(N:Int):=aa;have hie:idx=R.length:=by rw[GK.o];exact Nat.le_antisymm hidx (Nat.le_of_not_lt hlt)
   have WY:=az (Jh HRR.o Lj.o.2.1 HG.o (.inl hie));go_wp2;go_meet;exact⟨idx,K1,p1,i1,HS,HW,WY,HX⟩
 case rest =>
 obtain⟨idx,K1,p1,i1,HS,HW,WY,HX⟩:=hcut;have h6:i1.direct.length=6:=by have:=HW.o.fam.six j;rwa[aS]at this
 have Jb:Hid (p1.wf i1):=az (by have:=HW.o.fam.wf j;rwa[aS]at this);obtain⟨ka,la,za,dl,sa,da⟩:=i1;obtain⟨e0,e1,e2,e3,e4,e5,hdl⟩:=six (l:=dl) h6;subst hdl;clear h6;obtain⟨tq,tr,T1,T2,T3,T4,T5,T6,T7,T8,T9,hT⟩:=PD CX.o;have Ll:=az hT;clear hT;have HAT:=az (pG HS.o.go.at_ ⟨ka,la,za,[e0,e1,e2,e3,e4,e5],sa,da⟩ Jb.o HS.o.file HS.o.nf tq Ll.o.2.2.1);go_wp2_with fail;refine HAT.o.mono ?_;rintro e Wi ⟨K5,rfl,hrd⟩;have uk:=az (HS.o.on hrd.go);have x2:Wi.cell? ⟨x,2,none⟩=some (vi sz):=(hrd.go.keep HX.o.1 HX.o.2.1).1.cell 2;have oC:=az (Po.FW Jb.o tq)
 obtain⟨A,hA⟩:∃A,A=p1.at_ ⟨ka,la,za,[e0,e1,e2,e3,e4,e5],sa,da⟩ tq:=⟨_,rfl⟩;rw[<-hA]at oC ⊢;have HA:=az hA;clear hrd HAT HX HS hA;go_upto_region 20 with fail;go_cut [85] from 72 to 85 (λv85 wx=>Wi=wx/\∃b:Bool,v85=.bool b/\Hid (b=true↔A≠0/\tr≠0/\t<sz))
 case first =>
  by_cases h1:A=0
  ·have a1:((A:Int) != 0)=false:=bne_eq_false_iff_eq.2 aa;go_wp2;go_meet;exact⟨rfl,_,rfl,az (by simp[h1])⟩
  have a1:((A:Int) != 0)=true:=bne_iff_ne.2 aa;by_cases h2:tr=0
  ·have a2:((tr:Int) != 0)=false:=bne_eq_false_iff_eq.2 aa;go_wp2;go_meet;exact⟨rfl,_,rfl,az (by simp[h2])⟩
  have a2:((tr:Int) != 0)=true:=bne_iff_ne.2 aa;by_cases h3:t<sz
  ·have a3:(t:Int)<(sz:Int):=aa;go_wp2;go_meet;exact⟨rfl,_,rfl,az (by simp[h1,h2,h3])⟩
  have a3:¬(t:Int)<(sz:Int):=aa;go_wp2;go_meet;exact⟨rfl,_,rfl,az (by simp[h3])⟩
 case rest =>
 obtain⟨rfl,b,rfl,hb⟩:=hcut;go_upto_if 85 with fail;go_cut [] from 15 to 104 (λwx=>∃K5,Hid (zA aA w q K f r ⟨ka,la,za,[e0,e1,e2,e3,e4,e5],sa,da⟩ Te wx K5 (pX p1 ⟨ka,la,za,[e0,e1,e2,e3,e4,e5],sa,da⟩ t (is j).size)))
 case first =>
  rcases b.eq_false_or_eq_true with rfl|rfl
  ·obtain⟨h1,h2,h3⟩:=hb.o.1 rfl;have HIF:Hid (p1.put (A:Int) ((p1.cont ⟨ka,la,za,[e0,e1,e2,e3,e4,e5],sa,da⟩ tq).take tr++aaA (64-tr) 0)=pX p1 ⟨ka,la,za,[e0,e1,e2,e3,e4,e5],sa,da⟩ t (is j).size):=az (by
    rw[yD.o,pX,<-Ll.o.1,<-Ll.o.2.1,<-HA.o,if_pos ⟨h1,h2,h3⟩])
   have Pt:Hid (p1.cont ⟨ka,la,za,[e0,e1,e2,e3,e4,e5],sa,da⟩ tq=p1.get (A:Nat)):=az (by unfold Po.cont;rw[<-HA.o,if_neg h1]);have hlen:=uk.o.go.at_.len A (oC.o.2 h1);have je:=az hlen;have Xa:=az (oC.o.2 h1);have IU:=az (sS uk.o.go.at_ A (Nat.le_of_lt (Nat.lt_of_lt_of_le oC.o.1 ag)) (oC.o.2 h1));clear hlen h1 h2 h3;go_wp2_with fail;refine IU.o.mono ?_;rintro e w13 ⟨K4,g7,c7,rfl,Fw,yO,Tv,Xn,El⟩;obtain⟨k2,hk2,Uj⟩:=uk.o.go.at_.iN;have hrd:=El.rd k2 hk2;obtain⟨w14,hrun,hbr,hch⟩:=Jg (a:=tr) (cj:=c7-tr) Fw je.o.1 je.o.2 Ll.o.2.2.2;rw[<-Pt.o]at hbr
   have Uk:gD k2 Wi w14:=hrd.far (hch.mono (λn _ e=>by rw[e];exact yO)) (uk.o.go.at_.lt _ Uj);have La:=az (uk.o.on (bM.pM uk.o.go.at_ hk2 Uk).go);have Bq:=az (FH La.o.go.at_ A Xa.o (some ⟨g7,0,none⟩) c7 _ hbr (Uz (by rw[Pt.o];exact je.o.1) Ll.o.2.2.2));have hrun':=hrun 23;have q1:¬c7=tr:=aea Ll.o.2.2.2 Tv;have q2:tr<=c7:=abX (Nat.le_of_lt Ll.o.2.2.2) Tv;have q3:(tr:Int)<=(c7:Int):=Int.ofNat_le.2 q2;clear Fw yO Tv Xn El hk2 Uj hrd hbr hch Uk IU uk Pt x2;go_wp2_with fail;refine Bq.o.mono ?_;rintro e Wi ⟨rfl,aev⟩;have uk:=az (La.o.on aev)
   clear aev Bq La hrun hrun' q1 q2 q3;go_wp2;go_meet;exact⟨_,by rw[<-HIF.o];exact uk⟩
  have HIF:Hid (p1=pX p1 ⟨ka,la,za,[e0,e1,e2,e3,e4,e5],sa,da⟩ t (is j).size):=az (by
   rw[yD.o,pX,<-Ll.o.1,<-Ll.o.2.1,<-HA.o,if_neg (λe=>by have:=hb.o.2 e;cases this)])
  go_wp2;go_meet;exact⟨_,by rw[<-HIF.o];exact uk⟩
 case rest =>
 obtain⟨K6,hs6⟩:=hcut;have uk:=az hs6.o;clear hs6;generalize aiK:wc=Wi at*;clear aiK;go_upto_region 26 with fail;have y3:Wi.cell? ⟨f,3,none⟩=some (vi za):=uk.o.file.cell 3;have fy3:=uk.o.file.frozen 3;have vK:Hid (aD (Wi.setCell ⟨f,3,none⟩ (vi t)) f 74 (fileC q ⟨ka,la,t,[e0,e1,e2,e3,e4,e5],sa,da⟩)):=az (uk.o.file.bB 3 (vi t));have HS2:=az (uk.o.ad7 (i':=⟨ka,la,t,[e0,e1,e2,e3,e4,e5],sa,da⟩) H.o ((aP.refl _ Wi).setCell (F:=λn=>n=f) (p:=⟨f,3,none⟩) (.inl rfl) (vi t)) vK.o);clear uk vK;go_upto_region 27 with fail;change Code.wp _ _ _ _ (Wi.setCell ⟨f,3,none⟩ (vi t))
 generalize Wi.setCell ⟨f,3,none⟩ (vi t)=w2 at*;clear y3 fy3;obtain⟨y1,y2,y3,y4,y5,y6,y7,y8,y9,y10,y11⟩:=ffacts HS2.o.file;obtain⟨z0,fz0,z1,fz1,z2,fz2,z3,fz3,z4,fz4,z5,fz5,z6,fz6,z7,fz7,z8,fz8,z9,fz9,Ui,fz10⟩:=pJ HS2.o.res;go_wp2_with fail;obtain⟨hf,hw⟩:=iA (vi ka) (vi la) (vi t) (vi e0) (vi e1) (vi e2) (vi e3) (vi e4) (vi e5) (vi sa) (vi da) HS2.o.res;exact bodyPost_ret (gq hf _ rfl rfl) rfl ⟨_,p1,_,⟨ka,la,za,[e0,e1,e2,e3,e4,e5],sa,da⟩,R.take idx,rfl,(HS2.o.cO H.o hw hf).go,HW.o,by rw[<-nS.o,yD.o];exact WY.o,rfl⟩
end
def Ji:List Slot:=.one:: .lQ::((ac9 32).map Slot.sec++(ac9 1062).map Slot.dat)
def Ca (N:Nat):(ac9 N).Pairwise (·≠·):=List.pairwise_lt_range.imp (λh e=>by omega)
def Lm:Ji.Pairwise (·≠·):=by
 unfold Ji;refine List.pairwise_cons.2 ⟨λs hs e=>?_,List.pairwise_cons.2 ⟨λs hs e=>?_,List.pairwise_append.2 ⟨?_,?_,λa ha b hb e=>?_⟩⟩⟩;subst e;simp at hs;subst e;simp at hs;exact afm.2 ((Ca 32).imp (λh e=>h (by injection e)));exact afm.2 ((Ca 1062).imp (λh e=>h (by injection e)));obtain⟨x,_,rfl⟩:=aay.1 ha;obtain⟨y,_,hy⟩:=aay.1 hb;rw[<-e]at hy;cases hy
def XQ (σ:Slot->Nat):List Nat:=(Ji.map σ).filter (λx=>decide (x≠0))
def zR {σ:Slot->Nat}{x:Nat}:x∈XQ σ↔x≠0/\∃s∈Ji,σ s=x:=by
 unfold XQ;rw[List.mem_filter,aay];constructor;rintro⟨⟨s,hs,e⟩,h⟩;exact⟨of_decide_eq_true h,s,hs,e⟩;rintro⟨h,s,hs,e⟩;exact⟨⟨s,hs,e⟩,decide_eq_true h⟩
def Nr {σ:Slot->Nat}(h:Full σ){z:Nat->Bool}(hz:∀n,n<1062->(z n=true↔σ (.dat n)≠0)):(XQ σ).length=aH z:=by
 have h1:decide (σ .one≠0)=iU z:=by
  rw[ae4,decide_eq_true_iff,iU,bR];rw[Ne,h.one];constructor;intro e;refine ad2 λc=>e λk hk=>ad2 λc2=>c ⟨k,hk,(hz _ aa).2 c2⟩
  rintro⟨k,hk,e⟩ e2;exact(hz _ aa).1 e (e2 k hk)
 have h2:∀a,a<32->decide (σ (.sec a)≠0)=dU z a:=λa ha=>by
  rw[ae4,decide_eq_true_iff,dU,bR];rw[Ne,h.sec a ha];constructor;intro e;refine ad2 λc=>e λk hk=>ad2 λc2=>c ⟨k,hk,(hz _ aa).2 c2⟩
  rintro⟨k,hk,e⟩ e2;exact(hz _ aa).1 e (e2 k hk)
 have h3:decide (σ .lQ≠0)=iC z:=by
  rw[ae4,decide_eq_true_iff,iC,bR];rw[Ne,h.lQ];constructor;intro e;refine ad2 λc=>e λk hk=>ad2 λc2=>c ⟨k,hk,by rw[<-h2 k hk];exact decide_eq_true c2⟩
  rintro⟨k,hk,e⟩ e2;rw[<-h2 k hk]at e;exact of_decide_eq_true e (e2 k hk)
 have h4:(ac9 1062).countP ((λx=>decide (x≠0))∘σ∘Slot.dat)=(ac9 1062).countP z:=bN (λm hm=>by
  rw[ae4,hz m hm]
  simp)
 have h5:(ac9 32).countP ((λx=>decide (x≠0))∘σ∘Slot.sec)=(ac9 32).countP (dU z):=bN (λm hm=>by
  rw[<-h2 m hm]
  rfl)
 unfold XQ aH;rw[<-List.countP_eq_length_filter];unfold Ji;rw[List.map_cons,List.map_cons,aef,List.map_map,List.map_map,List.countP_cons,List.countP_cons,List.countP_append,List.countP_map,List.countP_map];rw[h4,h5];have e1:(if decide (σ .one≠0)=true then 1 else 0)=(iU z).toNat:=by rw[h1];cases iU z<;>rfl
 have e2:(if decide (σ .lQ≠0)=true then 1 else 0)=(iC z).toNat:=by rw[h3];cases iC z<;>rfl
 rw[e1,e2];omega
section
variable{p:Po}{is:Nat->PI.bF}
def Po.UF (p:Po)(i:PI.bF){n:Nat}(h:1062<=n):p.at_ i n=0:=by
 unfold Po.at_;rw[if_neg aa,if_neg aa,if_neg aa]
def UG {j:Nat}{s:Slot}(h:p.slot (is j) s≠0):s∈Ji:=by
 unfold Ji;cases s with
 |one=>simp
 |lQ=>simp
 |sec k =>
  have:k<32:=Nat.lt_of_not_le λe=>h (by rw[Po.dJ,if_neg aa])
  simp[this]
 |dat n =>
  have:n<1062:=Nat.lt_of_not_le λe=>h (p.UF _ e)
  simp[this]
def Ns (p:Po)(i:PI.bF)(n:Nat):p.gG i n=true↔p.slot i (.dat n)≠0:=by
 unfold Po.gG;rw[decide_eq_true_iff];rfl
def XR {m:Mp Int}{x:Int}:x∈m.map (·.1)↔MP.has m x=true:=by
 unfold MP.has;induction m with
 |nil=>simp[MP.get]
 |cons y m ih =>
  rw[List.map_cons,List.mem_cons,ih];show (x=y.1\/(MP.get m x).isSome=true)↔(if y.1=x then some y.2 else MP.get m x).isSome=true;split;rename_i e;simp[e];rename_i e;constructor;rintro (e2|e2);exact absurd e2.symm e;exact e2;exact .inr
def o6.count (h:o6 p is)(N:Nat)(hN:∀j,N<=j->∀s,p.slot (is j) s=0):p.U.length=((ac9 N).map λj=>aH (p.gG (is j))).sum:=by
 have hk:(p.U.map (·.1)).Nodup:=by
  have:p.U.Pairwise (λx y=>x.1<y.1):=h.ok.MQ;exact afm.2 (this.imp (λh e=>aa))
 let L:List Int:=(ac9 N).flatMap λj=>(XQ (p.slot (is j))).map λ(x:Nat)=>(x:Int);have hL:L.Nodup:=by
  refine List.pairwise_flatMap.2 ⟨λj _=>?_,?_⟩;refine afm.2 ?_;unfold XQ;refine List.pairwise_filter.2 (afm.2 (Lm.imp ?_));intro s s' hne h1 _ e;have:=h.sep.inj j s j s' (of_decide_eq_true h1) (by simpa using Int.ofNat_inj.1 e);exact hne this.2;refine(Ca N).imp ?_;intro j j' hne x hx y hy e;obtain⟨x',hx',rfl⟩:=aay.1 hx;obtain⟨y',hy',rfl⟩:=aay.1 hy;obtain⟨h0,s,_,e1⟩:=zR.1 hx';obtain⟨_,s',_,e2⟩:=zR.1 hy';have he:x'=y':=Int.ofNat_inj.1 e;exact hne (h.sep.inj j s j' s' (by rw[e1];exact h0) (by rw[e1,e2,he])).1
 have hp:(p.U.map (·.1)).Perm L:=(List.perm_ext_iff_of_nodup hk hL).2 (λx=>by
  rw[XR]
  constructor
  intro hx
  have hg:=Po.dF.1 (h.ok.jf _ hx)
  have hd:=h.ok.bI
  obtain⟨x',rfl⟩:∃x':Nat,x=x':=⟨x.toNat,aa⟩
  obtain⟨h0,j,s,e⟩:=h.sep.all x' hx
  refine List.mem_flatMap.2 ⟨j,List.mem_range.2 (Nat.lt_of_not_le λhj=>h0 (by rw[<-e];exact hN j hj s)),aay.2 ⟨x',zR.2 ⟨h0,s,UG (by rw[e];exact h0),e⟩,rfl⟩⟩
  intro hx
  obtain⟨j,_,hx⟩:=List.mem_flatMap.1 hx
  obtain⟨x',hx',rfl⟩:=aay.1 hx
  obtain⟨h0,s,_,e⟩:=zR.1 hx'
  rw[<-e]
  exact h.sep.used j s (by rw[e];exact h0))
 rw[<-abT (f:=λ(x:Int×Int)=>x.1),hp.length_eq,List.length_flatMap];congr 1;refine List.map_congr_left λj _=>?_
 rw[abT];exact Nr (h.full j) (λn _=>Ns p (is j) n)
def o6.aK (h:o6 p is)(N:Nat)(hN:∀j,N<=j->∀s,p.slot (is j) s=0):p.aK=p.P-(((ac9 N).map λj=>aH (p.gG (is j))).sum:Nat):=by
 unfold Po.aK;rw[h.count N hN]
end
end po
namespace df
open pl po
def DF.wr (F:DF)(aF:Nat)(l:List Nat):DF :=
 ⟨max F.size (aF+l.length),λn=>F.z n||(decide (aF/64<=n)&&decide (64*n<aF+l.length)),λx=>if aF<=x/\x<aF+l.length then l.getD (x-aF) 0 else F.b x⟩
def DF.cut (F:DF)(t:Nat):DF:=⟨t,λn=>F.z n&&decide (64*n<t),λx=>if x<t then F.b x else 0⟩
def DF.ok.wr {F:DF}(h:F.ok){aF:Nat}{l:List Nat}(hl:1<=l.length)(h3:aF+l.length<=67968)(hs:∀y∈l,y<256):(F.wr aF l).ok:=by
 refine⟨?_,λn hn=>?_,λx hx=>?_,λx=>?_⟩;have:=h.size;show max F.size (aF+l.length)<=67968;omega;have hn':(F.z n||(decide (aF/64<=n)&&decide (64*n<aF+l.length)))=true:=hn;rcases Bool.or_eq_true_iff.1 hn' with e|e;exact h.there n e;have:=(Bool.and_eq_true_iff.1 e).2;have:=of_decide_eq_true this;omega;have hx':(F.z (x/64)||(decide (aF/64<=x/64)&&decide (64*(x/64)<aF+l.length)))=false:=hx;obtain⟨h1,h2⟩:=Bool.or_eq_false_iff.1 hx';show (if aF<=x/\x<aF+l.length then l.getD (x-aF) 0 else F.b x)=0;rw[if_neg];exact h.zero x h1;rintro⟨h4,h5⟩;rw[decide_eq_true aa,decide_eq_true aa]at h2
 cases h2;show (if aF<=x/\x<aF+l.length then l.getD (x-aF) 0 else F.b x)<256;split;exact zZ hs _;exact h.small x
def DF.ok.cut {F:DF}(h:F.ok){t:Nat}(ht:t<=67968):(F.cut t).ok:=by
 refine⟨ht,λn hn=>h.there n (Bool.and_eq_true_iff.1 hn).1,λx hx=>?_,λx=>?_⟩;show (if x<t then F.b x else 0)=0;split;rename_i hxt;have hx':(F.z (x/64)&&decide (64*(x/64)<t))=false:=hx;rw[decide_eq_true aa,Bool.and_true]at hx';exact h.zero x hx';rfl;show (if x<t then F.b x else 0)<256;split;exact h.small x;omega
structure Fl (p:Po)(N:Nat)(is:Nat->PI.bF)(Fs:Nat->DF):Prop where
 fam:o6 p is
 size:∀j,(Fs j).size=(is j).size
 z:∀j n,(Fs j).z n=p.gG (is j) n
 b:∀j x,(Fs j).b x=p.byte (is j) x
 ok:∀j,(Fs j).ok
 tail:∀j x,(is j).size<=x->p.byte (is j) x=0
 none:∀j,N<=j->∀s,p.slot (is j) s=0
def fsUp (Fs:Nat->DF)(j:Nat)(F:DF):Nat->DF:=λj'=>if j'=j then F else Fs j'
def fsUp_self (Fs:Nat->DF)(j:Nat)(F:DF):fsUp Fs j F j=F:=by unfold fsUp;rw[if_pos rfl]
def fsUp_other (Fs:Nat->DF){j j':Nat}(F:DF)(h:j'≠j):fsUp Fs j F j'=Fs j':=by unfold fsUp;rw[if_neg h]
section
variable{p p':Po}{is:Nat->PI.bF}{Fs:Nat->DF}{N j aF:Nat}{l:List Nat}{i':PI.bF}
def o6.size (h:o6 p (bW is j i'))(s:Nat):o6 p (bW is j {i' with size:=s}):=by
 have hsl:∀j' σ,p.slot (bW is j {i' with size:=s} j') σ=p.slot (bW is j i' j') σ:=λj' σ=>by
  by_cases e:j'=j;rw[e,aS,aS];cases σ<;>rfl;rw[aV _ _ e,aV _ _ e]
 have hf:(λj' σ=>p.slot (bW is j {i' with size:=s} j') σ)=λj' σ=>p.slot (bW is j i' j') σ:=funext λj'=>funext λσ=>hsl j' σ
 refine⟨h.ok,by rw[hf];exact h.sep,λj'=>by rw[show p.slot (bW is j {i' with size:=s} j')=p.slot (bW is j i' j') from funext (hsl j')];exact h.full j',λj'=>?_,h.row⟩;have:=h.six j';by_cases e:j'=j;rw[e,aS]at this ⊢;exact this;rw[aV _ _ e]at this ⊢;exact this
variable{i:PI.bF}
def Po.tC {x:Nat}(h:p.at_ i (x/64)=0):p.byte i x=0:=by
 unfold Po.byte Po.cont;rw[if_pos h,aah,afk];split<;>rfl
def abr {n:Nat}:p.gG i n=false↔p.at_ i n=0:=by
 unfold Po.gG;rw[decide_eq_false_iff_not,Decidable.not_not]
def Po.oO (h:∀m,p'.cont i m=p.cont i m)(x:Nat):p'.byte i x=p.byte i x:=by
 unfold Po.byte;rw[h]
def Po.Gl (h:∀m,p'.at_ i m=p.at_ i m)(n:Nat):p'.gG i n=p.gG i n:=by
 unfold Po.gG;rw[h]
def Fl.wr (h:Fl p N is Fs)(hj:j<N)(W:BS p is j aF l (aF+l.length) p' i')(hl:1<=l.length)(h3:aF+l.length<=67968)(hs:∀y∈l,y<256) :
  Fl p' N (bW is j {i' with size:=max (is j).size (aF+l.length)}) (fsUp Fs j ((Fs j).wr aF l)):=by
 have UH:=o6.size W.fam (max (is j).size (aF+l.length));refine⟨UH,λj'=>?_,λj' n=>?_,λj' x=>?_,λj'=>?_,λj' x hx=>?_,λj' hj' s=>?_⟩<;>by_cases e:j'=j;rw[e,fsUp_self,aS];show max (Fs j).size _=max (is j).size _;rw[h.size];rw[fsUp_other _ _ e,aV _ _ e];exact h.size j';rw[e,fsUp_self,aS];show ((Fs j).z n||_)=p'.gG i' n;rw[W.gG,h.z,decide_eq_true (show aF<aF+l.length by omega),Bool.true_and];rw[fsUp_other _ _ e,aV _ _ e,h.z,Po.Gl (λm=>W.at_ j' m e)];rw[e,fsUp_self,aS];show (if aF<=x/\x<aF+l.length then l.getD (x-aF) 0 else (Fs j).b x)=p'.byte i' x
 rw[W.byte,h.b];rw[fsUp_other _ _ e,aV _ _ e,h.b,Po.oO (λm=>W.cont j' m e)];rw[e,fsUp_self];exact(h.ok j).wr hl h3 hs;rw[fsUp_other _ _ e];exact h.ok j';rw[e,aS]at hx ⊢;have hx':max (is j).size (aF+l.length)<=x:=hx;show p'.byte i' x=0;rw[W.byte,if_neg aa];exact h.tail j x aa;rw[aV _ _ e]at hx ⊢;rw[Po.oO (λm=>W.cont j' m e)];exact h.tail j' x hx;omega;rw[aV _ _ e];have hF:o6 p' (bW is j {i' with size:=max (is j).size (aF+l.length)}):=UH;have F:=hF.full j';rw[aV _ _ e]at F;have hd:∀n,p'.slot (is j') (.dat n)=0:=λn=>(W.at_ j' n e).trans (h.none j' hj' (.dat n))
 have hs':∀a,a<32->p'.slot (is j') (.sec a)=0:=λa ha=>(F.sec a ha).2 (λb _=>hd _);cases s with
 |one=>exact F.one.2 (λk _=>hd _)
 |lQ=>exact F.lQ.2 hs'
 |sec a =>
  by_cases ha:a<32;exact hs' a ha;rw[Po.dJ,if_neg ha]
 |dat n=>exact hd n
end
end df
end Go.Proofs.YtllmbcigmimgoaaGreat
