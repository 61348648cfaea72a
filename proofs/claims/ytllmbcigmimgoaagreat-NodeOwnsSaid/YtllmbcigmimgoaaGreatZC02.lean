/-
  Lemmas for a law's proof, put together from several texts. No conditions of their own.
-/
import Derived.Test.YtllmbcigmimgoaaGreatZC01
import Derived.Deep.QuietTactic
import Derived.Deep.DeepCutAuto
import Derived.BigQuiet
import Derived.Deep.RegionHeld3
import Derived.BigRegion
import Derived.StillTailTactics
import Derived.Deep.RegionLaw
import Derived.Outline
set_option maxRecDepth 100000
set_option maxHeartbeats 20000000
set_option linter.all false
namespace Go.Proofs.YtllmbcigmimgoaaGreat
open _root_.Go.Proofs.Tryz
open _root_.Bool renaming and_eq_true->ac8
open _root_.Go renaming Value->acK,World->acL,Calls->ac4,Addr->acM,bodyPost_ret->ac5
open _root_.Go.Ending renaming returned->ab4
open _root_.Go.IntKind renaming i64->adk
open _root_.Go.IntWalk renaming i64_in->adl
open _root_.Go.Obj renaming cells->ach
open _root_.Go.RowKit renaming Below->acN
open _root_.Go.Value renaming pointer->adj,bool->acg,slice->aco,tuple->adg
open _root_.Go.World renaming cell?_setCell_other->ac6
open _root_.Int renaming toNat_natCast->acW
open _root_.List renaming replicate->aaA,getD_eq_getElem?_getD->aah,getElem?_eq_getElem->aaj,length_set->abZ,set_set->ac2,length_replicate->abP,drop_eq_getElem_cons->adb,mem_replicate->aaE,mem_map->aay,map_set->ade,getElem?_eq_none->ac7,mem_map_of_mem->ada,mem_singleton->adf,take_of_length_le->ac0,getElem_mem->aff,drop_length->ai4,mem_append->aaS
open _root_.Nat renaming zero_le->aaW,le_trans->abX
open _root_.Or renaming inl->ack,inr->acm
namespace gcs
open RowKit
abbrev pt (b:Nat):acK:=adj (some ⟨b,0,none⟩)
abbrev fn0 (f:Nat):acK:=.func (.func f) #[] #[]
def iK (x:aD):Bool:=x.s==3
def fullB (aK:Bool)(x:aD):Bool:=aK&&x.s==2
def og (least:Int)(x:aD):Bool:=x.r==least&&(x.s==0||x.s==1&&x.n==0)
def RI (x:aD)(w:acL) :
  ac4 prog 219 #[x.v] w λe w'=>e=ab4 (acg (iK x))/\acN w.heap.size w w':=by
 go_in;go_wp2;go_ret;exact⟨rfl,ax⟩
variable{w:acL}
def aY {a:acM}{v:acK}(h:w.cell? a=some v)(o:Obj):(w.alloc o).cell? a=some v :=
 cell_below h ax
def J9 (x:aD)(aK:Bool)(br:Nat)(w:acL)(hr:w.cell? ⟨br,0,none⟩=some (acg aK)) :
  ac4 prog 220 #[x.v,pt br] w λe w'=>e=ab4 (acg (fullB aK x))/\acN w.heap.size w w':=by
 have h1:∀o,(w.alloc o).cell? ⟨br,0,none⟩=some (acg aK):=λo=>aY hr o
 cases aK;all_goals
  go_in;go_wp2;go_ret;exact⟨rfl,ax⟩
def sG (x:aD):Prop:=0<=x.r/\x.r<=1099511627776
variable{w1:acL}
def Ww (x:aD)(T:TypeId)(h:acN (w.alloc (ach #[vi x.s,vi x.l,vi x.r,vi x.n] T)).heap.size (w.alloc (ach #[vi x.s,vi x.l,vi x.r,vi x.n] T)) w1) :
  (w1.cell? ⟨w.heap.size,0,none⟩=some (vi x.s)/\w1.cell? ⟨w.heap.size,1,none⟩=some (vi x.l)/\w1.cell? ⟨w.heap.size,2,none⟩=some (vi x.r)/\w1.cell? ⟨w.heap.size,3,none⟩=some (vi x.n))/\acN w.heap.size w w1 :=
 ⟨⟨cell_below ai h,cell_below ai h,cell_below ai h,cell_below ai h⟩,ax.trans (h.mono ai)⟩
def aao (x:aD)(least:Int)(bs bl:Nat)(w:acL)(hs:w.cell? ⟨bs,0,none⟩=some (fn0 219))(hl:w.cell? ⟨bl,0,none⟩=some (vi least))
  (hx:sG x) (h3:0<=least) (h4:least<=1099511627776) :
  ac4 prog 221 #[x.v,pt bs,pt bl] w λe w'=>e=ab4 (acg (iK x&&qV least x))/\acN w.heap.size w w':=by
 have hx':=az hx;clear hx;have f0:∀o,(w.alloc o).cell? ⟨bs,0,none⟩=some (fn0 219):=λo=>aY hs o
 go_in;go_wp2_with fail;refine(RI x _).mono ?_;rintro e w1 ⟨rfl,hb1⟩;have k1:w1.cell? ⟨bl,0,none⟩=some (vi least):=cell_below (aY hl _) hb1;obtain⟨⟨c0,c1,c2,c3⟩,hb2⟩:=Ww x 193 hb1;clear hb1;cases h:iK x
 ·go_wp2;go_ret;exact⟨aU (by simp[h]),hb2⟩
 go_wp2_with fail;refine(MC x least _ hx'.o.1 hx'.o.2 h3 h4).mono ?_;rintro e w2 ⟨rfl,hb3⟩;go_wp2;go_ret;exact⟨aU (by simp[h]),hb2.trans (hb3.mono hb2.size)⟩
def aap (x:aD)(least p:Int)(aK:Bool)(bf bl bp br:Nat)(w:acL)(hf:w.cell? ⟨bf,0,none⟩=some (.func (.func 220) #[] #[pt br]))(hr:w.cell? ⟨br,0,none⟩=some (acg aK))
  (hl:w.cell? ⟨bl,0,none⟩=some (vi least)) (hp:w.cell? ⟨bp,0,none⟩=some (vi p))
  (hx:sG x) (h3:0<=least) (h4:least<=1099511627776) :
  ac4 prog 224 #[x.v,pt bf,pt bl,pt bp] w λe w'=>e=ab4 (acg (fullB aK x&&qV least x&&decide (x.l<p)))/\acN w.heap.size w w':=by
 have hx':=az hx;clear hx;have f0:∀o,(w.alloc o).cell? ⟨bf,0,none⟩=some (.func (.func 220) #[] #[pt br]):=λo=>aY hf o
 have f1:∀o,(w.alloc o).cell? ⟨br,0,none⟩=some (acg aK):=λo=>aY hr o
 go_in;go_wp2_with fail;refine(J9 x aK br _ (f1 _)).mono ?_;rintro e w1 ⟨rfl,hb1⟩;have k1:w1.cell? ⟨bl,0,none⟩=some (vi least):=cell_below (aY hl _) hb1;have k2:w1.cell? ⟨bp,0,none⟩=some (vi p):=cell_below (aY hp _) hb1;obtain⟨⟨c0,c1,c2,c3⟩,hb2⟩:=Ww x 193 hb1;clear hb1;cases h:fullB aK x
 ·go_wp2;go_ret;exact⟨aU (by simp[h]),hb2⟩
 go_wp2_with fail;refine(MC x least _ hx'.o.1 hx'.o.2 h3 h4).mono ?_;rintro e w2 ⟨rfl,hb3⟩;have k2':=cell_below k2 hb3;have c1':=cell_below c1 hb3;have hb4:=hb2.trans (hb3.mono hb2.size);clear hb3 k1 k2 c0 c1 c2 c3;cases h':qV least x
 ·go_wp2;go_ret;exact⟨aU (by simp[h,h']),hb4⟩
 go_wp2;go_ret;exact⟨aU (by simp[h,h']),hb4⟩
def aaq (x:aD)(least:Int)(bl:Nat)(w:acL)(hl:w.cell? ⟨bl,0,none⟩=some (vi least)) :
  ac4 prog 227 #[x.v,pt bl] w λe w'=>e=ab4 (acg (og least x))/\acN w.heap.size w w':=by
 have f0:∀o,(w.alloc o).cell? ⟨bl,0,none⟩=some (vi least):=λo=>aY hl o
 by_cases h1:(x.r==least)=true
 ·by_cases h2:(x.s==0)=true
  ·go_in;go_wp2;go_ret;exact⟨aU (by simp[og,h1,h2]),ax⟩
  have h2':(x.s==0)=false:=by simpa using h2
  by_cases h3:(x.s==1)=true
  ·go_in;go_wp2;go_ret;exact⟨aU (by simp[og,h1,h2',h3]),ax⟩
  have h3':(x.s==1)=false:=by simpa using h3
  go_in;go_wp2;go_ret;exact⟨aU (by simp[og,h1,h2',h3']),ax⟩
 have h1':(x.r==least)=false:=by simpa using h1
 go_in;go_wp2;go_ret;exact⟨aU (by simp[og,h1']),ax⟩
def aar (x:aD)(least:Int)(aK:Bool)(bf bl br:Nat)(w:acL)(hf:w.cell? ⟨bf,0,none⟩=some (.func (.func 220) #[] #[pt br]))(hr:w.cell? ⟨br,0,none⟩=some (acg aK))
  (hl:w.cell? ⟨bl,0,none⟩=some (vi least)) :
  ac4 prog 228 #[x.v,pt bf,pt bl] w λe w'=>e=ab4 (acg (fullB aK x&&x.r==least))/\acN w.heap.size w w':=by
 have f0:∀o,(w.alloc o).cell? ⟨bf,0,none⟩=some (.func (.func 220) #[] #[pt br]):=λo=>aY hf o
 have f1:∀o,(w.alloc o).cell? ⟨br,0,none⟩=some (acg aK):=λo=>aY hr o
 go_in;go_wp2_with fail;refine(J9 x aK br _ (f1 _)).mono ?_;rintro e w1 ⟨rfl,hb1⟩;have k1:w1.cell? ⟨bl,0,none⟩=some (vi least):=cell_below (aY hl _) hb1;obtain⟨⟨c0,c1,c2,c3⟩,hb2⟩:=Ww x 193 hb1;clear hb1;cases h:fullB aK x;all_goals
  go_wp2;go_ret;exact⟨aU (by simp[h]),hb2⟩
def aas (x:aD)(p:Int)(aK:Bool)(bf bp br:Nat)(w:acL)(hf:w.cell? ⟨bf,0,none⟩=some (.func (.func 220) #[] #[pt br]))(hr:w.cell? ⟨br,0,none⟩=some (acg aK))
  (hp:w.cell? ⟨bp,0,none⟩=some (vi p)) :
  ac4 prog 230 #[x.v,pt bf,pt bp] w λe w'=>e=ab4 (acg (fullB aK x&&decide (x.l<p)))/\acN w.heap.size w w':=by
 have f0:∀o,(w.alloc o).cell? ⟨bf,0,none⟩=some (.func (.func 220) #[] #[pt br]):=λo=>aY hf o
 have f1:∀o,(w.alloc o).cell? ⟨br,0,none⟩=some (acg aK):=λo=>aY hr o
 go_in;go_wp2_with fail;refine(J9 x aK br _ (f1 _)).mono ?_;rintro e w1 ⟨rfl,hb1⟩;have k1:w1.cell? ⟨bp,0,none⟩=some (vi p):=cell_below (aY hp _) hb1;obtain⟨⟨c0,c1,c2,c3⟩,hb2⟩:=Ww x 193 hb1;clear hb1;cases h:fullB aK x;all_goals
  go_wp2;go_ret;exact⟨aU (by simp[h]),hb2⟩
def firstTo (P:aD->Bool):List aD->Nat->Int
 |[],_=> -1
 |x::l,k=>if P x then k else firstTo P l (k+1)
def first (P:aD->Bool)(bs:List aD):Int:=firstTo P bs 0
def firstTo_bd (P:aD->Bool):∀(l:List aD) (k:Nat),firstTo P l k= -1\/(k:Int)<=firstTo P l k/\firstTo P l k<k+l.length
 |[],_=>ack rfl
 |x::l,k=>by
  unfold firstTo
  split
  exact acm ⟨aa,by simp;omega⟩
  rcases firstTo_bd P l (k+1) with h|h
  exact ack h
  exact acm ⟨aa,by simp at h ⊢;omega⟩
def first_bd (P:aD->Bool)(bs:List aD): -1<=first P bs/\first P bs<bs.length:=by
 rcases firstTo_bd P bs 0 with h|h<;>unfold first<;>omega
def firstTo_drop (P:aD->Bool)(bs:List aD)(k:Nat)(h:k<bs.length):firstTo P (bs.drop k) k=if P (bs.getD k default) then (k:Int) else firstTo P (bs.drop (k+1)) (k+1):=by
 rw[adb h,firstTo,aah,aaj h];rfl
def De (F:Nat)(cm:Array acK)(v:acK)(bs:List aD)(w:acL)(P:aD->Bool)(hrow:Row w v bs)
  (hF:∀args W,(callFunc F args).run prog W=.ok (.enter F args) W)
  (Rs:∀(x:aD) (W:acL),x∈bs->acN w.heap.size w W->ac4 prog F (#[x.v]++cm) W λe W'=>e=ab4 (acg (P x))/\acN W.heap.size W W') :
  ac4 prog 226 #[v,.func (.func F) #[] cm] w λe w'=>e=ab4 (vi (first P bs))/\acN w.heap.size w w':=by
 have HR:=az hrow;obtain⟨hlen,a,cap,rfl,-⟩:=hrow;have HM:=az Rs;clear Rs;go_in;go_wp2_with fail;go_loopw [8] (λi wr=>∃k:Nat,k<=bs.length/\i=vi k/\first P bs=firstTo P (bs.drop k) k/\acN w.heap.size w wr) (λi _=>bs.length-(intOf i).toNat)
 case atStart=>exact⟨0,aaW _,rfl,rfl,ak⟩
 case round =>
  obtain⟨k,hk,rfl,hf,hb⟩:=hrel;have Hf:=az hf;clear hf;by_cases hlt:k<bs.length
  ·obtain⟨b,o,rfl,hx⟩:=(HR.o.below hb).lookup hlt;have hin:bs.getD k default∈bs:=by rw[aah,aaj hlt];exact aff hlt
   have hd:=firstTo_drop P bs k hlt;generalize bs.getD k default=x at hx hin hd;obtain⟨g0,g1,g2,g3⟩:=hx;have Hin:=az hin;have Hd:=az hd;clear hin hd;go_wp2_with fail;refine(HM.o x _ Hin.o hb).mono ?_;rintro e w1 ⟨rfl,hb1⟩;have hb2:=hb.trans (hb1.mono hb.size);cases hP:P x
   ·go_wp2;go_roundw
    case rel=>exact⟨k+1,aa,by go_num,by rw[Hf.o,Hd.o,hP];rfl,hb2⟩
    case measure=>simp[intOf];omega
   go_wp2;go_ret;exact⟨bS (by rw[Hf.o,Hd.o,hP];rfl),hb2⟩
  go_wp2;go_ret;obtain rfl:k=bs.length:=aa;exact⟨bS (by rw[Hf.o,ai4];rfl),hb⟩
abbrev xu (a:Int×Int):acK:=.agg #[vi a.1,vi a.2]
def xx (aK:Bool)(p:Int)(x:aD):Bool:=fullB aK x&&decide (x.l<p)
def jF (k:Int)(aL:Int)(r:Int×Int):Int×Int:=if 0<=k then (aL,k) else r
def forcedL (bs:List aD)(p:Int)(aK:Bool):Int×Int :=
 jF (iP iK fH bs) 4 (jF (iP (xx aK p) dB bs) 4 (0,-1))
def vG (bs:List aD)(p:Int)(aK:Bool):Int×Int :=
 if lh p bs then
  jF (iP (λx=>iK x&&qV (eP bs) x) fH bs) 1
   (jF (iP (λx=>fullB aK x&&qV (eP bs) x&&decide (x.l<p)) dB bs) 2
    (jF (first (og (eP bs)) bs) 3
     (jF (iP (λx=>fullB aK x&&x.r==eP bs) dB bs) 2 (forcedL bs p aK))))
 else (0,-1)
def ma {k aL:Int}{r:Int×Int}(h:0<=k):jF k aL r=(aL,k):=if_pos h
def mF {k aL:Int}{r:Int×Int}(h:k<0):jF k aL r=r:=if_neg aa
variable{u:acK}
def agZ {v:acK}{T:TypeId}(h:acN (w.alloc (ach #[u,v] T)).heap.size (w.alloc (ach #[u,v] T)) w1) :
  (w1.cell? ⟨w.heap.size,0,none⟩=some u/\w1.cell? ⟨w.heap.size,1,none⟩=some v/\w1.frozen? ⟨w.heap.size,0,none⟩=false/\w1.frozen? ⟨w.heap.size,1,none⟩=false)/\acN w.heap.size w w1 :=
 ⟨⟨cell_below ai h,cell_below ai h,by rw[h.frozen ai];simp,by rw[h.frozen ai];simp⟩,ax.trans (h.mono ai)⟩
def Ht {b:Nat}{v:acK}(h:w.cell? ⟨b,0,none⟩=some u/\w.cell? ⟨b,1,none⟩=some v/\w.frozen? ⟨b,0,none⟩=false/\w.frozen? ⟨b,1,none⟩=false)(hb:acN w.heap.size w w1) :
  w1.cell? ⟨b,0,none⟩=some u/\w1.cell? ⟨b,1,none⟩=some v/\w1.frozen? ⟨b,0,none⟩=false/\w1.frozen? ⟨b,1,none⟩=false :=
 ⟨cell_below h.1 hb,cell_below h.2.1 hb,(hb.frozen (lU h.1)).trans h.2.2.1,(hb.frozen (lU h.2.1)).trans h.2.2.2⟩
def forced_any (v:acK)(bs:List aD)(p:Int)(aK:Bool)(bf bp br:Nat)(w:acL)(hrow:Row w v bs)
  (hf:w.cell? ⟨bf,0,none⟩=some (.func (.func 220) #[] #[pt br])) (hr:w.cell? ⟨br,0,none⟩=some (acg aK)) (hp:w.cell? ⟨bp,0,none⟩=some (vi p)) :
  ac4 prog 229 #[v,fn0 219,.func (.func 230) #[] #[pt bf,pt bp]] w λe w'=>e=ab4 (xu (forcedL bs p aK))/\acN w.heap.size w w':=by
 have HR:=az hrow;clear hrow;have HL:=az (show forcedL bs p aK=jF (iP iK fH bs) 4 (jF (iP (xx aK p) dB bs) 4 (0,-1)) from rfl);go_in;go_wp2_with fail;refine(mE 219 223 #[] #[] _ bs _ iK fH (HR.o.below ax) Rv Am (λx W _ _=>RI x W) (λx y W _=>Ak x y W)).mono ?_;rintro e w1 ⟨rfl,hb1⟩;obtain⟨hk,hb2⟩:=agZ hb1;have hbd:=ky iK fH bs;generalize iP iK fH bs=k1 at*;clear hb1;by_cases h1:0<=k1
 ·obtain⟨c0,c1,f0,f1⟩:=hk;go_wp2_with fail;refine ac5 (v:=xu (4,k1)) (by simp[results,results229,go_sem,c0,c1]) rfl ⟨by rw[HL.o,ma h1],?_⟩;exact(hb2.setCell (p:=⟨w.heap.size,0,none⟩) aj _).setCell (p:=⟨w.heap.size,1,none⟩) aj _
 have h1':k1<0:=aa;go_wp2_with fail;refine(mE 230 225 #[pt bf,pt bp] #[] _ bs _ (xx aK p) dB (HR.o.below hb2) RH nN
  (λx W _ hW=>aas x p aK bf bp br W (cell_below (cell_below hf hb2) hW) (cell_below (cell_below hr hb2) hW) (cell_below (cell_below hp hb2) hW)) (λx y W _=>qW x y W)).mono ?_
 rintro e w2 ⟨rfl,hb3⟩;have hk2:=Ht hk hb3;have hb4:=hb2.trans (hb3.mono hb2.size);have ag0:=ky (xx aK p) dB bs;generalize iP (xx aK p) dB bs=k2 at*;clear hb3 hb2 hk;obtain⟨c0,c1,f0,f1⟩:=hk2;by_cases h2:0<=k2
 ·go_wp2_with fail;refine ac5 (v:=xu (4,k2)) (by simp[results,results229,go_sem,c0,c1]) rfl ⟨by rw[HL.o,mF h1',ma h2],?_⟩;exact(hb4.setCell (p:=⟨w.heap.size,0,none⟩) aj _).setCell (p:=⟨w.heap.size,1,none⟩) aj _
 have h2':k2<0:=aa;go_wp2_with fail;refine ac5 (v:=xu (0,-1)) (by simp[results,results229,go_sem,c0,c1]) rfl ⟨by rw[HL.o,mF h1',mF h2'],?_⟩;exact(hb4.setCell (p:=⟨w.heap.size,0,none⟩) aj _).setCell (p:=⟨w.heap.size,1,none⟩) aj _
def Ka {p:Int}{bs:List aD}(h:lh p bs=true):∀x∈bs,bH p x=true:=by
 simp only[lh,ac8,List.all_eq_true]at h;exact h.2
def yw {p:Int}{bs:List aD}(h:lh p bs=true):∀x∈bs,sG x:=λx hx=>by
 have:=Ka h x hx
 simp only[bH,ac8,decide_eq_true_eq]at this
 exact⟨this.1.1.2,this.1.2⟩
def Oc {bs:List aD}(h:∀x∈bs,sG x)(k:Int)(hk:k<bs.length):0<=bC bs k/\bC bs k<=1099511627776:=by
 unfold bC;split;omega;have hlt:k.toNat<bs.length:=aa;have:=h (bs.getD k.toNat default) (by rw[aah,aaj hlt];exact aff hlt);exact this
def Od {p:Int}{bs:List aD}(h:lh p bs=true):0<=eP bs/\eP bs<=1099511627776:=Oc (yw h) _ (ky _ _ _).2
structure zL (w:acL)(bp br b0 bl bs bf:Nat)(aK:Bool)(p least:Int)(u v:acK):Prop where
 cp:w.cell? ⟨bp,0,none⟩=some (vi p)
 cr:w.cell? ⟨br,0,none⟩=some (acg aK)
 res:w.cell? ⟨b0,0,none⟩=some u/\w.cell? ⟨b0,1,none⟩=some v/\w.frozen? ⟨b0,0,none⟩=false/\w.frozen? ⟨b0,1,none⟩=false
 cl:w.cell? ⟨bl,0,none⟩=some (vi least)
 cs:w.cell? ⟨bs,0,none⟩=some (fn0 219)
 cf:w.cell? ⟨bf,0,none⟩=some (.func (.func 220) #[] #[pt br])
def zL.below {bp br b0 bl bs bf:Nat}{aK:Bool}{p least:Int}{v:acK}(h:zL w bp br b0 bl bs bf aK p least u v)(hb:acN w.heap.size w w1):zL w1 bp br b0 bl bs bf aK p least u v :=
 ⟨cell_below h.cp hb,cell_below h.cr hb,Ht h.res hb,cell_below h.cl hb,cell_below h.cs hb,cell_below h.cf hb⟩
def iQ {H:Nat}(v:acK)(T:TypeId)(hH:w.heap.size=H):(w.alloc (ach #[v] T)).cell? ⟨H,0,none⟩=some v:=by subst hH;simp
def Ao {H:Nat}(u v:acK)(T:TypeId)(hH:w.heap.size=H) :
  (w.alloc (ach #[u,v] T)).cell? ⟨H,0,none⟩=some u/\(w.alloc (ach #[u,v] T)).cell? ⟨H,1,none⟩=some v/\(w.alloc (ach #[u,v] T)).frozen? ⟨H,0,none⟩=false/\(w.alloc (ach #[u,v] T)).frozen? ⟨H,1,none⟩=false:=by subst hH;simp
def Aq (v:acK)(bs:List aD)(p:Int)(aK:Bool)(w:acL)(hrow:Row w v bs) :
  ac4 prog 200 #[v,vi p,acg aK] w λe w'=>e=ab4 (xu (vG bs p aK))/\acN w.heap.size w w':=by
 have HR:=az hrow;clear hrow;have hL:vG bs p aK=if lh p bs then
  jF (iP (λx=>iK x&&qV (eP bs) x) fH bs) 1
   (jF (iP (λx=>fullB aK x&&qV (eP bs) x&&decide (x.l<p)) dB bs) 2
    (jF (first (og (eP bs)) bs) 3
     (jF (iP (λx=>fullB aK x&&x.r==eP bs) dB bs) 2 (forcedL bs p aK)))) else (0,-1):=rfl
 have HL:=az hL;clear hL;go_in;go_wp2_with fail;have hb0:acN w.heap.size w (((w.alloc (ach #[vi p] 3)).alloc (ach #[acg aK] 4)).alloc (ach #[vi 0,vi 0] 229)) :=
  (ax.alloc ai _).alloc (by simp;omega) _
 refine(xq v bs p _ (HR.o.below hb0)).mono ?_;rintro e w1 ⟨rfl,hb1⟩;have hb1':=hb0.trans (hb1.mono hb0.size);have cp:w1.cell? ⟨w.heap.size,0,none⟩=some (vi p):=cell_below (aY (aY (iQ _ _ rfl) _) _) hb1;have cr:w1.cell? ⟨w.heap.size+1,0,none⟩=some (acg aK):=cell_below (aY (iQ _ _ ai) _) hb1;have res:=Ht (Ao (w:=(w.alloc (ach #[vi p] 3)).alloc (ach #[acg aK] 4)) (H:=w.heap.size+1+1) (vi 0) (vi 0) 229 ai) hb1;clear hb1 hb0;cases hr:lh p bs
 ·obtain⟨c0,c1,f0,f1⟩:=res;go_wp2_with fail;refine ac5 (v:=xu (0,-1)) (by simp[results,results200,go_sem,c0,c1]) rfl ⟨by rw[HL.o,hr];rfl,?_⟩;exact(hb1'.setCell (p:=⟨w.heap.size+1+1,0,none⟩) (by simp;omega) _).setCell (p:=⟨w.heap.size+1+1,1,none⟩) (by simp;omega) _
 have hlb:=Od hr;have HW:=az (yw hr);have HL2:Hid (vG bs p aK=jF (iP (λx=>iK x&&qV (eP bs) x) fH bs) 1
  (jF (iP (λx=>fullB aK x&&qV (eP bs) x&&decide (x.l<p)) dB bs) 2
   (jF (first (og (eP bs)) bs) 3
    (jF (iP (λx=>fullB aK x&&x.r==eP bs) dB bs) 2 (forcedL bs p aK))))):=by
  show _=_;rw[HL.o,hr];rfl
 clear HL hr;go_wp2_with fail;refine(DX v bs _ (HR.o.below hb1')).mono ?_;rintro e w2 ⟨rfl,hb2⟩;generalize eP bs=least at*;have hb2':=hb1'.trans (hb2.mono hb1'.size);obtain⟨W,hW⟩:∃W:acL,W=((w2.alloc (ach #[vi least] 3)).alloc (ach #[fn0 219] 211)).alloc (ach #[.func (.func 220) #[] #[pt (w.heap.size+1)]] 211):=⟨_,rfl⟩;have hb3:acN w2.heap.size w2 W:=by rw[hW];exact(ax.alloc ai _).alloc (by simp;omega) _
 have hE:zL W w.heap.size (w.heap.size+1) (w.heap.size+1+1) w2.heap.size (w2.heap.size+1) (w2.heap.size+1+1) aK p least (vi 0) (vi 0):=by
  refine⟨cell_below (cell_below cp hb2) hb3,cell_below (cell_below cr hb2) hb3,Ht (Ht res hb2) hb3,?_,?_,?_⟩;rw[hW];exact aY (aY (iQ _ _ rfl) _) _;rw[hW];exact aY (iQ _ _ ai) _;rw[hW];exact iQ _ _ ai
 have hb4:=hb2'.trans (hb3.mono hb2'.size);clear res cp cr hb1' hb2 hb3 hb2';go_wp2_with fail;rw[<-hW];clear hW;generalize w2.heap.size=bl at*;refine(mE 221 223 #[pt (bl+1),pt bl] #[] _ bs _ (λx=>iK x&&qV least x) fH (HR.o.below hb4) Rw Am
  (λx W' hx hW=>aao x least _ _ W' (hE.below hW).cs (hE.below hW).cl (HW.o x hx) hlb.1 hlb.2) (λx y W _=>Ak x y W)).mono ?_
 rintro e w3 ⟨rfl,hb5⟩;have hE3:=hE.below hb5;have hb6:=hb4.trans (hb5.mono hb4.size);have hbd:=ky (λx=>iK x&&qV least x) fH bs;generalize iP (λx=>iK x&&qV least x) fH bs=k1 at*;clear hb5 hb4 hE;by_cases h1:0<=k1
 ·have RJ:=az (HL2.o.trans (ma h1));obtain⟨c0,c1,f0,f1⟩:=hE3.res;go_wp2_with fail;refine ac5 (v:=xu (1,k1)) (by simp[results,results200,go_sem,c0,c1]) rfl ⟨by rw[RJ.o],?_⟩;exact(hb6.setCell (p:=⟨w.heap.size+1+1,0,none⟩) (by simp;omega) _).setCell (p:=⟨w.heap.size+1+1,1,none⟩) (by simp;omega) _
 have h1':k1<0:=aa;have RJ:=az (HL2.o.trans (mF h1'));clear HL2;go_wp2_with fail;refine(mE 224 225 #[pt (bl+1+1),pt bl,pt w.heap.size] #[] _ bs _ (λx=>fullB aK x&&qV least x&&decide (x.l<p)) dB (HR.o.below hb6) ahy nN
  (λx W' hx hW=>aap x least p aK _ _ _ _ W' (hE3.below hW).cf (hE3.below hW).cr (hE3.below hW).cl (hE3.below hW).cp (HW.o x hx) hlb.1 hlb.2) (λx y W _=>qW x y W)).mono ?_
 rintro e w4 ⟨rfl,tZ⟩;have hE4:=hE3.below tZ;have wT:=hb6.trans (tZ.mono hb6.size);have ag0:=ky (λx=>fullB aK x&&qV least x&&decide (x.l<p)) dB bs;generalize iP (λx=>fullB aK x&&qV least x&&decide (x.l<p)) dB bs=k2 at*;clear tZ hb6 hE3;by_cases h2:0<=k2
 ·have uf:=az (RJ.o.trans (ma h2));obtain⟨c0,c1,f0,f1⟩:=hE4.res;go_wp2_with fail;refine ac5 (v:=xu (2,k2)) (by simp[results,results200,go_sem,c0,c1]) rfl ⟨by rw[uf.o],?_⟩;exact(wT.setCell (p:=⟨w.heap.size+1+1,0,none⟩) (by simp;omega) _).setCell (p:=⟨w.heap.size+1+1,1,none⟩) (by simp;omega) _
 have h2':k2<0:=aa;have uf:=az (RJ.o.trans (mF h2'));clear RJ;go_wp2_with fail;refine(De 227 #[pt bl] _ bs _ (og least) (HR.o.below wT) Rz (λx W' hx hW=>aaq x least _ W' (hE4.below hW).cl)).mono ?_;rintro e w5 ⟨rfl,ME⟩;have hE5:=hE4.below ME;have RL:=wT.trans (ME.mono wT.size);have ame:=first_bd (og least) bs;generalize first (og least) bs=k3 at*
 clear ME wT hE4;by_cases h3:0<=k3
 ·have RN:=az (uf.o.trans (ma h3));obtain⟨c0,c1,f0,f1⟩:=hE5.res;go_wp2_with fail;refine ac5 (v:=xu (3,k3)) (by simp[results,results200,go_sem,c0,c1]) rfl ⟨by rw[RN.o],?_⟩;exact(RL.setCell (p:=⟨w.heap.size+1+1,0,none⟩) (by simp;omega) _).setCell (p:=⟨w.heap.size+1+1,1,none⟩) (by simp;omega) _
 have h3':k3<0:=aa;have RN:=az (uf.o.trans (mF h3'));clear uf;go_wp2_with fail;refine(mE 228 225 #[pt (bl+1+1),pt bl] #[] _ bs _ (λx=>fullB aK x&&x.r==least) dB (HR.o.below RL) RG nN
  (λx W' hx hW=>aar x least aK _ _ _ W' (hE5.below hW).cf (hE5.below hW).cr (hE5.below hW).cl) (λx y W _=>qW x y W)).mono ?_
 rintro e w6 ⟨rfl,aau⟩;have hE6:=hE5.below aau;have Hu:=RL.trans (aau.mono RL.size);have amf:=ky (λx=>fullB aK x&&x.r==least) dB bs;generalize iP (λx=>fullB aK x&&x.r==least) dB bs=k4 at*;clear aau RL hE5;by_cases h4:0<=k4
 ·have HL6:=az (RN.o.trans (ma h4));obtain⟨c0,c1,f0,f1⟩:=hE6.res;go_wp2_with fail;refine ac5 (v:=xu (2,k4)) (by simp[results,results200,go_sem,c0,c1]) rfl ⟨by rw[HL6.o],?_⟩;exact(Hu.setCell (p:=⟨w.heap.size+1+1,0,none⟩) (by simp;omega) _).setCell (p:=⟨w.heap.size+1+1,1,none⟩) (by simp;omega) _
 have h4':k4<0:=aa;have HL6:=az (RN.o.trans (mF h4'));have cs:=hE6.cs;clear RN;go_wp2_with fail;refine(forced_any v bs p aK _ _ _ _ (HR.o.below Hu) hE6.cf hE6.cr hE6.cp).mono ?_;rintro e w7 ⟨rfl,aaw⟩;obtain⟨c0,c1,f0,f1⟩:=(hE6.below aaw).res;have ag2:=Hu.trans (aaw.mono Hu.size);clear aaw Hu hE6 cs;generalize hfo:forcedL bs p aK=r at*;clear hfo;go_wp2_with fail;refine ac5 (v:=xu r) (by simp[results,results200,go_sem,c0,c1]) rfl ⟨by rw[HL6.o],?_⟩;exact(ag2.setCell (p:=⟨w.heap.size+1+1,0,none⟩) (by simp;omega) _).setCell (p:=⟨w.heap.size+1+1,1,none⟩) (by simp;omega) _
end gcs
namespace mgr
open RowKit
def aN (state:Int)(bs:List gcs.aD):Nat:=(bs.filter (λx=>x.s==state)).length
def oh (state:Int)(bs:List gcs.aD):aN state bs<=bs.length:=List.length_filter_le _ _
def Hw (state:Int)(bs:List gcs.aD)(k:Nat)(h:k<bs.length):aN state (bs.take (k+1))=aN state (bs.take k)+(if (bs.getD k default).s==state then 1 else 0):=by
 unfold aN;rw[List.take_succ_eq_append_getElem h,List.filter_append,List.length_append,aah,aaj h];cases hs:(bs[k].s==state)<;>simp[hs]
def DY (v:acK)(bs:List gcs.aD)(state:Int)(w:acL)(hrow:gcs.Row w v bs) :
  ac4 prog 166 #[v,vi state] w λe w'=>e=ab4 (vi (aN state bs))/\acN w.heap.size w w':=by
 have HR:=az hrow;obtain⟨hlen,a,cap,rfl,-⟩:=hrow;go_in;go_wp2_with fail;go_loopw [5,10] (λn i wr=>∃k:Nat,k<=bs.length/\i=vi k/\n=vi (aN state (bs.take k))/\acN w.heap.size w wr) (λ_ i _=>bs.length-(intOf i).toNat)
 case atStart=>exact⟨0,aaW _,rfl,rfl,ak⟩
 case round =>
  obtain⟨k,hk,rfl,rfl,hb⟩:=hrel;by_cases hlt:k<bs.length
  ·obtain⟨b,o,rfl,hx⟩:=(HR.o.below hb).lookup hlt;have hst:=Hw state bs k hlt;have hle:aN state (bs.take k)<=k:=abX (oh _ _) (by simp;omega);generalize bs.getD k default=x at hx hst;generalize aN state (bs.take k)=c at hst hle ⊢;obtain⟨g0,g1,g2,g3⟩:=hx;have Hst:=az hst;clear hst;cases hs:(x.s==state);all_goals
    go_wp2;go_roundw
    case rel=>exact⟨k+1,aa,by go_num,by rw[Hst.o,hs];simp,hb.alloc hb.size _⟩
    case measure=>simp[intOf];omega
  go_wp2;go_ret;obtain rfl:k=bs.length:=aa;exact⟨bS (by rw[List.take_length]),hb⟩
structure iL where
 k:Nat
 l:List gcs.aD
 gl:Nat
 cl:Nat
 at_:Int
 aC:Int
 bad:Int
 even:Bool
abbrev iL.cs (G:iL):Array acK:=#[ptr G.k,aco (some ⟨G.gl,0,none⟩) G.l.length G.cl,vi G.at_,vi G.aC,vi G.bad,acg G.even]
abbrev gQ (b:gcs.aD):List acK:=[vi b.s,vi b.l,vi b.r,vi b.n]
def gT (b:gcs.aD):(gQ b).length=4:=rfl
def iL.foot (G:iL)(m n:Nat):Prop:=n=m\/n=G.gl
structure kL (aA:Nat)(w:acL)(m:Nat)(G:iL):Prop where
 mgr:aD w m 191 G.cs
 row:kY w 193 4 G.gl G.l.length G.cl (G.l.flatMap gQ)
 low:∀n,G.foot m n->aA<=n
variable{aA:Nat}{w w':acL}{m:Nat}{G:iL}{M:dA}
def kL.mine (h:kL aA w m G):∀n,G.foot m n->Mine aA w n:=by
 intro n hn;refine⟨h.low n hn,?_⟩;rcases hn with rfl|rfl;exact⟨_,_,ag,h.mgr⟩;obtain⟨cur,hb,_⟩:=h.row.blk;exact⟨_,_,ag,hb⟩
def kL.aJ {F:Nat->Prop}(h:kL aA w m G)(q:aP F w w')(hn:∀n,G.foot m n->¬F n):kL aA w' m G :=
 ⟨h.mgr.aJ q (hn _ (ack rfl)),h.row.aJ q (hn _ (acm rfl)),h.low⟩
def kL.old (h:kL aA w m G)(q:acN w.heap.size w w'):kL aA w' m G:=h.aJ (F:=λ_=>False) (aP.of_below q) (λ_ _ e=>e)
variable{i j:Nat}
def kL.cell (h:kL aA w m G)(hi:i<G.l.length)(hj:j<4):w.cell? ⟨G.gl,i*4+j,none⟩=(gQ (G.l.getD i default))[j]?:=by
 rw[h.row.cell aa];exact flat_get gT default _ _ _ hi hj
def kL.grow (h:kL aA w m G):gcs.Row w (aco (some ⟨G.gl,0,none⟩) G.l.length G.cl) G.l:=by
 obtain⟨cur,_,h1,h2,_⟩:=h.row.blk;refine⟨by unfold maxLen at h2;omega,_,_,rfl,acm ⟨G.gl,0,rfl,λi hi=>?_⟩⟩;have h0:=h.cell hi (j:=0) ag;have h1:=h.cell hi (j:=1) ag;have h2:=h.cell hi (j:=2) ag;have h3:=h.cell hi (j:=3) ag;rw[Nat.zero_add];exact⟨h0,h1,h2,h3⟩
def field_g1 (x y z:Int)(w:acL):(Instr.field 103 (.agg #[vi x,vi y,vi z]) 1).run prog w=.ok (vi y) w:=ah
def om (h:kL aA w m G)(hc:aT aA w G.k M):ac4 prog 201 #[ptr m] w λe w'=>e=ab4 (vi M.P)/\acN w.heap.size w w':=by
 have c0:w.cell? ⟨m,0,none⟩=some (ptr G.k):=h.mgr.cell 0;have HC:=az hc;clear h hc;go_in;go_wp2_with fail;refine(iZ HC.o).mono ?_;rintro e w' ⟨rfl,hb⟩;have HB:=az hb;have hf:=field_g1;clear hb c0;go_wp2;go_ret;exact⟨rfl,HB.o⟩
def mG (h:kL aA w m G):ac4 prog 198 #[ptr m] w λe w'=>e=ab4 (vi (aN 0 G.l))/\acN w.heap.size w w':=by
 have c1:w.cell? ⟨m,1,none⟩=some (aco (some ⟨G.gl,0,none⟩) G.l.length G.cl):=h.mgr.cell 1;have H:=az h;clear h;go_in;go_wp2_with fail;refine(DY _ _ 0 w H.o.grow).mono ?_;rintro e w' ⟨rfl,hb⟩;have HB:=az hb;clear hb c1;go_wp2;go_ret;exact⟨rfl,HB.o⟩
def Hy (h:kL aA w m G):ac4 prog 142 #[ptr m] w λe w'=>e=ab4 (vi (wrap64 (G.aC-wrap64 ((aN 4 G.l:Nat)-G.bad))))/\acN w.heap.size w w':=by
 have c1:=Sub.cell (show w.cell? ⟨m,1,none⟩=some (aco (some ⟨G.gl,0,none⟩) G.l.length G.cl) from h.mgr.cell 1);have c3:=Sub.cell (show w.cell? ⟨m,3,none⟩=some (vi G.aC) from h.mgr.cell 3);have c4:=Sub.cell (show w.cell? ⟨m,4,none⟩=some (vi G.bad) from h.mgr.cell 4);have HCO:Hid (∀n:Sub w,ac4 prog 166 #[aco (some ⟨G.gl,0,none⟩) G.l.length G.cl,vi 4] n.w λe w'=>e=ab4 (vi (aN 4 G.l))/\acN n.w.heap.size n.w w'):=az (λn=>DY _ _ 4 n.w (h.old n.below).grow);clear h;go_in;go_upto_region 3 with fail;refine aZ ah ah ?_;repeat (go_big_quiet_step (exact fM (HCO.o _)))
 refine wpQuiet_nil ?_;rintro _ ⟨nq,rfl⟩;have Ar:=az nq.below;go_wp2;go_ret;exact⟨ai,Ar.o⟩
def bT (G:iL)(P:Nat):Int:=(aN 0 G.l:Nat)*(P:Int)+(if G.at_= -1 then 0 else (P:Int)-(G.l.getD G.at_.toNat default).n)
def iL.fit (G:iL)(P:Nat):Prop:=G.l.length<=128/\P<=32/\(G.at_= -1\/∃i:Nat,G.at_=i/\i<G.l.length/\0<=(G.l.getD i default).n/\(G.l.getD i default).n<=P)
def fP (h:kL aA w m G)(hc:aT aA w G.k M)(hf:G.fit M.P):ac4 prog 195 #[ptr m] w λe w'=>e=ab4 (vi (bT G M.P))/\acN w.heap.size w w':=by
 obtain⟨hl,hP,hat⟩:=hf;have H:=az h;have HC:=az hc;have hcl:=oh 0 G.l;have HQ:Hid (bT G M.P=(aN 0 G.l:Nat)*(M.P:Int)+(if G.at_= -1 then 0 else (M.P:Int)-(G.l.getD G.at_.toNat default).n)):=az rfl;have HAT:=az hat;have hmul:aN 0 G.l*M.P<=4096:=abX (Nat.mul_le_mul (abX hcl hl) hP) ag;have hmc:((aN 0 G.l:Nat):Int)*(M.P:Int)=((aN 0 G.l*M.P:Nat):Int):=by rw[Int.natCast_mul]
 have q1:adk.wrap (((aN 0 G.l:Nat):Int)*(M.P:Int))=((aN 0 G.l:Nat):Int)*(M.P:Int):=adl _ (by rw[hmc];omega);have HMC:=az hmc;clear h hc hat hmc;go_in;go_wp2_with fail;refine(mG H.o).mono ?_;rintro e w1 ⟨rfl,hb1⟩;have H1:=az (H.o.old hb1);have yx:=az (HC.o.old hb1);have HB1:=az hb1;clear hb1;go_wp2_with fail;refine(om H1.o yx.o).mono ?_;rintro e w2 ⟨rfl,hb2⟩;have H2:=az (H1.o.old hb2);have JQ:=az (yx.o.old hb2);have HB2:=az (HB1.o.trans (hb2.mono HB1.o.size));have c2:w2.cell? ⟨m,2,none⟩=some (vi G.at_):=H2.o.mgr.cell 2;clear hb2
 generalize aN 0 G.l=c at*;rcases HAT.o with e0|⟨i,e0,hi,hn0,hn1⟩
 ·rw[if_pos e0,Int.add_zero]at HQ;rw[e0]at c2;have hne:((-1:Int) != -1)=false:=ag;go_wp2;go_ret;exact⟨bS HQ.o.symm,HB2.o⟩
 have hne:((i:Int) != -1)=true:=by simp only[bne_iff_ne,ne_eq];omega
 rw[if_neg aa,e0,acW]at HQ;rw[e0]at c2;have d3:w2.cell? ⟨G.gl,i*4+3,none⟩=some (vi (G.l.getD i default).n):=H2.o.cell hi (j:=3) ag;have c1:w2.cell? ⟨m,1,none⟩=some (aco (some ⟨G.gl,0,none⟩) G.l.length G.cl):=H2.o.mgr.cell 1;generalize (G.l.getD i default).n=nx at*;have hi0:(0:Int)<=(i:Int):=aa;have hi1:(i:Int)<(G.l.length:Int):=aa;have q2:adk.wrap ((M.P:Int)-nx)=(M.P:Int)-nx:=adl _ aa;have q3:adk.wrap ((c:Int)*(M.P:Int)+((M.P:Int)-nx))=(c:Int)*(M.P:Int)+((M.P:Int)-nx):=adl _ (by rw[HMC.o];omega);have Oe:Hid (∀n:Sub w2,ac4 prog 201 #[ptr m] n.w λe w'=>e=ab4 (vi M.P)/\acN n.w.heap.size n.w w'):=az (λn=>om (H2.o.old n.below) (JQ.o.old n.below))
 go_upto_region 5 with fail;have c1:=Sub.cell c1;have c2:=Sub.cell c2;have d3:=Sub.cell d3;refine aZ ah ah ?_;repeat (go_big_quiet_step (exact fM (Oe.o _)))
 refine wpQuiet_nil ?_;rintro _ ⟨nq,rfl⟩;have Ar:=az (HB2.o.trans (nq.below.mono HB2.o.size));go_wp2;go_ret;exact⟨bS HQ.o.symm,Ar.o⟩
structure Mg where
 l:List gcs.aD
 at_:Int
 aC:Int
 bad:Int
 even:Bool
abbrev Mg.blk (g:Mg)(i:Nat):gcs.aD:=g.l.getD i default
def dH (x:gcs.aD):gcs.aD:={x with s:=if x.l=0 then 3 else 2}
def Mg.shut (g:Mg)(i:Nat):Mg:={g with at_:=if (i:Int)=g.at_ then -1 else g.at_}
def Mg.put (g:Mg)(i:Nat)(x:gcs.aD):Mg:={g with l:=g.l.set i x}
def Mg.close (g:Mg)(i:Nat):Mg:=(g.put i (dH (g.blk i))).shut i
def freeB (x:gcs.aD):Bool:=x.s==0
def Mg.freeI (g:Mg):Int:=gcs.iP freeB gcs.fH g.l
def Mg.gU (g:Mg)(i:Nat):Mg:={g.put i ⟨1,0,(g.blk i).r,0⟩ with at_:=i}
def Mg.begun (g:Mg):Mg:=if g.freeI<0 then g else g.gU g.freeI.toNat
def Mg.there (g:Mg)(k:Int):Bool:=decide (0<=k)&&decide (k<g.l.length)&&(g.blk k.toNat).s != 4
def Mg.drop (g:Mg)(k:Int):Int×Mg :=
 if g.there k=false\/(g.blk k.toNat).l=0 then (1,g)
 else
  let x:=g.blk k.toNat
  (0,g.put k.toNat {x with l:=x.l-1,s:=if x.s=2/\x.l-1=0 then 3 else x.s})
def Mg.progTo (b:List Nat):Nat->NP.bX->Mg->(Int×Int×Int)×NP.bX×Mg
 |0,c,g=>((0,0,40),c,g)
 |n+1,c,g0 =>
  let g:=if g0.at_= -1 then g0.begun else g0
  if g.at_= -1 then ((0,0,40),c,g)
  else
   let i:=g.at_.toNat
   let x:=g.blk i
   let r:=NP.program c i x.n b
   if r.1=10 then Mg.progTo b n r.2 (g.close i)
   else if r.1=0 then
    let g1:=g.put i {x with n:=x.n+1,l:=x.l+1}
    ((i,x.n,0),r.2,if x.n+1=c.P then g1.close i else g1)
   else if r.1=11 then ((i,x.n,11),r.2,g.close i)
   else ((0,0,r.1),r.2,g)
def Mg.program (b:List Nat)(c:NP.bX)(g:Mg):(Int×Int×Int)×NP.bX×Mg :=
 if c.down then ((0,0,4),c,g)
 else if b.length≠c.full then ((0,0,1),c,g)
 else Mg.progTo b (aN 0 g.l+2) c g
def Mg.idle (c:NP.bX)(g:Mg)(k:Int):Int:=if c.down then 4 else if g.there k=false\/0<(g.blk k.toNat).l then 1 else 0
def Mg.gone (c:NP.bX)(g:Mg)(k:Nat):Int×NP.bX×Mg :=
 let r:=NP.mark c k
 if r.1=0 then (0,r.2,(g.put k ⟨4,0,NP.bC r.2 k,0⟩).shut k) else (r.1,r.2,g)
def Mg.erase (c:NP.bX)(g:Mg)(k:Int):Int×NP.bX×Mg :=
 let e:=g.idle c k
 if e≠0 then (e,c,g)
 else
  let i:=k.toNat
  let x:=g.blk i
  if x.s=1/\0<x.n then (1,c,g)
  else
   let r:=NP.erase c k
   let g1:=g.put i {x with r:=NP.bC r.2 k}
   if r.1=0 then (0,r.2,(g1.put i ⟨0,0,NP.bC r.2 k,0⟩).shut i)
   else if r.1=11 then (11,(Mg.gone r.2 g1 i).2)
   else (r.1,r.2,g1)
structure Mg.ok (c:NP.bX)(g:Mg):Prop where
 len:g.l.length=c.B
 QO:∀x∈g.l,0<=x.s/\x.s<=4/\0<=x.l/\x.l<=c.P/\0<=x.n/\x.n<=c.P
 none_:∀x∈g.l,x.s≠1->x.s≠2->x.l=0
 open_:∀x∈g.l,x.s=1->x.l<=x.n/\x.n<c.P
 QP:g.at_= -1\/∃i:Nat,g.at_=i/\i<g.l.length/\(g.blk i).s=1
 at2:∀i:Nat,i<g.l.length->(g.blk i).s=1->g.at_=i
section
variable{c c':NP.bX}{g:Mg}
def dG {l:List gcs.aD}(h:i<l.length):l.getD i default∈l:=NP.bL h
def il (l:List gcs.aD)(i j:Nat)(x:gcs.aD)(h:i<l.length):(l.set i x).getD j default=if i=j then x else l.getD j default:=NP.iO l default x i j h
def Mg.ok.aW (h:g.ok c)(h1:c'.B=c.B)(h2:c'.P=c.P):g.ok c' :=
 ⟨by rw[h1];exact h.len,by rw[h2];exact h.QO,h.none_,by rw[h2];exact h.open_,h.QP,h.at2⟩
def Mg.ok.lay (h:g.ok c)(hi:i<g.l.length)(x:gcs.aD)(h1:0<=x.s/\x.s<=4/\0<=x.l/\x.l<=c.P/\0<=x.n/\x.n<=c.P)(h2:x.s≠1->x.s≠2->x.l=0)(h3:x.s=1->x.l<=x.n/\x.n<c.P)
  (a:Int) (h4:x.s=1->(g.at_= -1\/g.at_=i)/\a=i) (h5:x.s≠1->a=if (i:Int)=g.at_ then -1 else g.at_):({g with l:=g.l.set i x,at_:=a}:Mg).ok c:=by
 have hm:∀y∈g.l.set i x,y=x\/y∈g.l:=λy hy=>(List.mem_or_eq_of_mem_set hy).symm
 refine⟨(abZ ..).trans h.len,?_,?_,?_,?_,?_⟩;intro y hy;rcases hm y hy with rfl|hy;exact h1;exact h.QO y hy;intro y hy;rcases hm y hy with rfl|hy;exact h2;exact h.none_ y hy;intro y hy;rcases hm y hy with rfl|hy;exact h3;exact h.open_ y hy;dsimp only[Mg.blk];by_cases e:x.s=1;exact acm ⟨i,(h4 e).2,by rw[abZ];exact hi,by rw[il _ _ _ _ hi,if_pos rfl];exact e⟩;rw[h5 e];by_cases e2:(i:Int)=g.at_;rw[if_pos e2];exact ack rfl;rw[if_neg e2];rcases h.QP with e3|⟨j,e3,hj,hs⟩;exact ack e3;exact acm ⟨j,e3,by rw[abZ];exact hj,by rw[il _ _ _ _ hi,if_neg (by intro e4;subst e4;exact e2 e3.symm)];exact hs⟩
 dsimp only[Mg.blk];intro j hj hs;rw[abZ]at hj;rw[il _ _ _ _ hi]at hs;by_cases e:i=j;subst e;rw[if_pos rfl]at hs;exact(h4 hs).2;rw[if_neg e]at hs;have e3:=h.at2 j hj hs;by_cases e1:x.s=1;rcases (h4 e1).1 with e4|e4<;>omega;rw[h5 e1,if_neg aa];exact e3
def Mg.ok.close (h:g.ok c)(hi:i<g.l.length):(g.close i).ok c:=by
 obtain⟨h1,h2,h3,h4,h5,h6⟩:=h.QO (g.blk i) (dG hi);refine h.lay hi (dH (g.blk i)) ?_ ?_ ?_ _ ?_ (λ_=>rfl);unfold dH;dsimp only;split<;>omega;unfold dH;dsimp only;split<;>omega;unfold dH;dsimp only;split<;>omega;unfold dH;dsimp only;split<;>omega
def Mg.ok.gU (h:g.ok c)(hi:i<g.l.length)(hP:0<c.P)(ha:g.at_= -1):(g.gU i).ok c :=
 h.lay hi ⟨1,0,(g.blk i).r,0⟩ (by dsimp only;omega) (by dsimp only;omega) (by dsimp only;omega) _ (λ_=>⟨ack ha,rfl⟩) (λe=>(e rfl).elim)
def Mg.freeI_lt (g:Mg):g.freeI<g.l.length:=(gcs.ky _ _ _).2
def Mg.ok.begun (h:g.ok c)(hP:0<c.P)(ha:g.at_= -1):g.begun.ok c:=by
 unfold Mg.begun;split;exact h;exact h.gU (by have:=g.freeI_lt;omega) hP ha
def Au (P:gcs.aD->Bool)(Q:gcs.aD->gcs.aD->Bool)(bs:List gcs.aD):∀k:Nat,0<=gcs.bestTo P Q bs k->P (bs.getD (gcs.bestTo P Q bs k).toNat default)=true
 |0,h=>by simp[gcs.bestTo]at h
 |k+1,h=>by
  unfold gcs.bestTo at h ⊢
  split
  rename_i hc
  simp only[ac8]at hc
  exact hc.1
  rename_i hc
  rw[if_neg hc]at h
  exact Au P Q bs k h
def Mg.freeI_free (h:0<=g.freeI):(g.blk g.freeI.toNat).s=0:=by
 have:=Au freeB gcs.fH g.l g.l.length h;exact of_decide_eq_true this
end
abbrev iL.view (G:iL):Mg:=⟨G.l,G.at_,G.aC,G.bad,G.even⟩
abbrev iL.lay (G:iL)(g:Mg):iL:={G with l:=g.l,at_:=g.at_,aC:=g.aC,bad:=g.bad,even:=g.even}
def foot1 (m:Nat)(G:iL)(M:dA)(n:Nat):Prop:=G.foot m n\/M.foot G.k n
structure Held (aA:Nat)(w:acL)(m:Nat)(G:iL)(M:dA):Prop where
 mgr:kL aA w m G
 aW:aT aA w G.k M
structure bJ (aA:Nat)(w:acL)(m:Nat)(G:iL)(M:dA)(w':acL)(g':Mg)(M':dA):Prop where
 at_:Held aA w' m (G.lay g') M'
 aJ:aP (foot1 m G M) w w'
 foot:∀n,M'.foot G.k n->M.foot G.k n\/w.heap.size<=n
variable{w'':acL}{M' M'':dA}{g' g'':Mg}
def Held.apart (h:Held aA w m G M):∀n,G.foot m n->¬M.foot G.k n:=by
 have hm:=h.mgr.mgr;obtain⟨cur,hr,_⟩:=h.mgr.row.blk;intro n hn hc;have key:∀t cs,aD w n t cs->t=191\/t=193->False:=by
  intro t cs hb ht;have hT:∀t' cs',aD w n t' cs'->t'=t:=by
   intro t' cs' hb';unfold aD at hb hb';rw[hb]at hb';injection hb' with hb';injection hb' with _ hb';exact hb'.symm
  rcases hc with rfl|rfl|hc;have:=hT _ _ h.aW.aW;rcases ht with rfl|rfl<;>exact absurd this ag;obtain⟨cur',hb',_⟩:=h.aW.blocks.blk;have:=hT _ _ hb';rcases ht with rfl|rfl<;>exact absurd this ag;obtain⟨x,hx,rfl⟩:=aay.1 hc;obtain⟨cur',hb',_⟩:=(h.aW.pages x hx).blk;have:=hT _ _ hb';rcases ht with rfl|rfl<;>exact absurd this ag
 rcases hn with rfl|rfl;exact key _ _ hm (ack rfl);exact key _ _ hr (acm rfl)
def Held.ne (h:Held aA w m G M):m≠G.gl:=by
 intro e;exact h.mgr.row.dM h.mgr.mgr ag e.symm
def Held.mine (h:Held aA w m G M):∀n,foot1 m G M n->Mine aA w n:=by
 intro n hn;rcases hn with hn|hn;exact h.mgr.mine n hn;exact h.aW.mine n hn
def Held.lt (h:Held aA w m G M):∀n,foot1 m G M n->n<w.heap.size:=by
 intro n hn;obtain⟨_,t,cs,_,hb⟩:=h.mine n hn;exact hb.lt
def Held.old (h:Held aA w m G M)(q:acN w.heap.size w w'):Held aA w' m G M:=⟨h.mgr.old q,h.aW.old q⟩
def bJ.refl (h:Held aA w m G M):bJ aA w m G M w G.view M:=⟨h,aP.refl _ _,λ_ e=>ack e⟩
def bJ.trans (h:bJ aA w m G M w' g' M')(q:bJ aA w' m (G.lay g') M' w'' g'' M''):bJ aA w m G M w'' g'' M'':=by
 refine⟨q.at_,h.aJ.trans q.aJ λn hn e=>?_,λn hn=>?_⟩;rcases e with e|e;exact ack e;rcases h.foot n e with h1|h1;exact acm h1;omega;rcases q.foot n hn with h1|h1;exact h.foot n h1;exact acm (abX h.aJ.size h1)
def bJ.old (h:bJ aA w m G M w' g' M')(q:acN w'.heap.size w' w''):bJ aA w m G M w'' g' M':=⟨h.at_.old q,h.aJ.below q,h.foot⟩
def bJ.aX (h:Held aA w m G M)(q:acN w.heap.size w w'):bJ aA w m G M w' G.view M:=(bJ.refl h).old q
def Held.jG (h:Held aA w m G M)(q:Goes aA w G.k M w' M'):bJ aA w m G M w' G.view M':=by
 refine⟨⟨?_,q.at_⟩,q.aJ.mono (λn _ e=>acm e),q.foot⟩;exact h.mgr.aJ q.aJ (λn e=>h.apart n e)
def Held.field (h:Held aA w m G M)(j:Nat)(v:acK)(g':Mg)(hc:(G.lay g').cs=G.cs.setIfInBounds j v)(hl:g'.l=G.l):bJ aA w m G M (w.setCell ⟨m,j,none⟩ v) g' M:=by
 have hq:aP (λn=>n=m) w (w.setCell ⟨m,j,none⟩ v):=aP.set (F:=λn=>n=m) w (p:=⟨m,j,none⟩) rfl v;refine⟨⟨⟨?_,?_,?_⟩,?_⟩,hq.mono (λn _ e=>ack (ack e)),λn e=>ack e⟩;rw[hc];exact h.mgr.mgr.bB j v;dsimp only[iL.lay];rw[hl];exact h.mgr.row.aJ hq (λe=>h.ne e.symm);exact λn hn=>h.mgr.low n hn
 exact h.aW.aJ hq (λn e=>h.mgr.mine n (ack e)) (λn hn e=>h.apart n (ack e) hn)
def Held.cell (h:Held aA w m G M)(hi:i<G.l.length)(hj:j<4)(v:acK)(y:gcs.aD)(hy:gQ y=(gQ (G.l.getD i default)).set j v):bJ aA w m G M (w.setCell ⟨G.gl,i*4+j,none⟩ v) (G.view.put i y) M:=by
 have hq:aP (λn=>n=G.gl) w (w.setCell ⟨G.gl,i*4+j,none⟩ v):=aP.set (F:=λn=>n=G.gl) w (p:=⟨G.gl,i*4+j,none⟩) rfl v;refine⟨⟨⟨?_,?_,?_⟩,?_⟩,hq.mono (λn _ e=>ack (acm e)),λn e=>ack e⟩;have:=h.mgr.mgr.aJ hq (λe=>h.ne e);simpa[iL.cs,Mg.put] using this;dsimp only[iL.lay,Mg.put,iL.view];rw[abZ,<-flat_set gT default _ _ _ y v hi hj hy];exact h.mgr.row.set _ v;exact λn hn=>h.mgr.low n hn
 exact h.aW.aJ hq (λn e=>h.mgr.mine n (acm e)) (λn hn e=>h.apart n (acm e) hn)
def Held.block (h:Held aA w m G M)(hi:i<G.l.length)(y:gcs.aD) :
  bJ aA w m G M ((((w.setCell ⟨G.gl,i*4,none⟩ (vi y.s)).setCell ⟨G.gl,i*4+1,none⟩ (vi y.l)).setCell ⟨G.gl,i*4+2,none⟩ (vi y.r)).setCell ⟨G.gl,i*4+3,none⟩ (vi y.n)) (G.view.put i y) M:=by
 have e:∀z,(G.l.set i z).getD i default=z:=λz=>by rw[il _ _ _ _ hi,if_pos rfl]
 have h1:=h.cell hi (j:=0) ag (vi y.s) {G.l.getD i default with s:=y.s} rfl;have h2:=h1.trans (h1.at_.cell (i:=i) (j:=1) (by simpa[Mg.put] using hi) ag (vi y.l) {G.l.getD i default with s:=y.s,l:=y.l} (by dsimp only[iL.lay,Mg.put,iL.view];rw[e];rfl));have h3:=h2.trans (h2.at_.cell (i:=i) (j:=2) (by simpa[Mg.put] using hi) ag (vi y.r) {G.l.getD i default with s:=y.s,l:=y.l,r:=y.r} (by dsimp only[iL.lay,Mg.put,iL.view];rw[ac2,e];rfl));have h4:=h3.trans (h3.at_.cell (i:=i) (j:=3) (by simpa[Mg.put] using hi) ag (vi y.n) y (by dsimp only[iL.lay,Mg.put,iL.view];rw[ac2,ac2,e];rfl))
 simpa only[iL.lay,Mg.put,iL.view,ac2,Nat.add_zero] using h4
def Held.cells (h:Held aA w m G M):w.cell? ⟨m,0,none⟩=some (ptr G.k)/\w.cell? ⟨m,1,none⟩=some (aco (some ⟨G.gl,0,none⟩) G.l.length G.cl)/\w.cell? ⟨m,2,none⟩=some (vi G.at_)/\w.cell? ⟨m,3,none⟩=some (vi G.aC)/\w.cell? ⟨m,4,none⟩=some (vi G.bad)/\w.cell? ⟨m,5,none⟩=some (acg G.even) :=
 ⟨h.mgr.mgr.cell 0,h.mgr.mgr.cell 1,h.mgr.mgr.cell 2,h.mgr.mgr.cell 3,h.mgr.mgr.cell 4,h.mgr.mgr.cell 5⟩
def Held.j3 (h:Held aA w m G M)(hi:i<G.l.length):w.cell? ⟨G.gl,i*4,none⟩=some (vi (G.l.getD i default).s)/\w.cell? ⟨G.gl,i*4+1,none⟩=some (vi (G.l.getD i default).l)/\w.cell? ⟨G.gl,i*4+2,none⟩=some (vi (G.l.getD i default).r)/\w.cell? ⟨G.gl,i*4+3,none⟩=some (vi (G.l.getD i default).n) :=
 ⟨h.mgr.cell hi (j:=0) ag,h.mgr.cell hi (j:=1) ag,h.mgr.cell hi (j:=2) ag,h.mgr.cell hi (j:=3) ag⟩
def ou (h:Held aA w m G M):ac4 prog 202 #[ptr m] w λe w'=>e=ab4 (vi (if M.down then 4 else 0))/\w'=w:=by
 obtain⟨c0,c1,c2,c3,c4,c5⟩:=h.cells;have HU:=az (ET h.aW);clear h c1 c2 c3 c4 c5;generalize M.down=d at*;cases d
 ·go_in;go_wp2_with fail;refine HU.o.mono ?_;rintro e w' ⟨rfl,rfl⟩;go_wp2;go_ret;exact⟨rfl,rfl⟩
 go_in;go_wp2_with fail;refine HU.o.mono ?_;rintro e w' ⟨rfl,rfl⟩;go_wp2;go_ret;exact⟨rfl,rfl⟩
def dP (h:Held aA w m G M)(k:Int):ac4 prog 140 #[ptr m,vi k] w λe w'=>e=ab4 (acg (G.view.there k))/\w'=w:=by
 obtain⟨c0,c1,c2,c3,c4,c5⟩:=h.cells;clear c0 c2 c3 c4 c5;by_cases h0:0<=k
 ·by_cases h1:k<G.l.length
  ·obtain⟨i,rfl⟩:∃i:Nat,k=i:=⟨k.toNat,aa⟩;have hi:i<G.l.length:=aa;have HQ:Hid (G.view.there i=((G.l.getD i default).s != 4)):=az (by
    unfold Mg.there
    rw[decide_eq_true h0,decide_eq_true (by exact h1)]
    rfl)
   obtain⟨d0,d1,d2,d3⟩:=h.j3 hi;clear d1 d2 d3 h;generalize (G.l.getD i default).s=s at*;go_in;go_wp2;go_ret;exact⟨aU HQ.o.symm,rfl⟩
  have HQ:Hid (G.view.there k=false):=az (by
   unfold Mg.there
   rw[decide_eq_false (p:=k<_) (by exact h1)]
   simp)
  clear h;have h2:(G.l.length:Int)<=k:=aa;go_in;go_wp2;go_ret;exact⟨aU HQ.o.symm,rfl⟩
 have HQ:Hid (G.view.there k=false):=az (by
  unfold Mg.there
  rw[decide_eq_false h0]
  rfl)
 clear h;go_in;go_wp2;go_ret;exact⟨aU HQ.o.symm,rfl⟩
def Held.Wx (h:Held aA w m G M)(hi:i<G.l.length)(hl:(G.l.getD i default).l=0):bJ aA w m G M ((w.setCell ⟨G.gl,i*4,none⟩ (vi 2)).setCell ⟨G.gl,i*4,none⟩ (vi 3)) (G.view.put i (dH (G.view.blk i))) M:=by
 have e:∀z,(G.l.set i z).getD i default=z:=λz=>by rw[il _ _ _ _ hi,if_pos rfl]
 have h1:=h.cell hi (j:=0) ag (vi 2) {G.l.getD i default with s:=2} rfl;have h2:=h1.trans (h1.at_.cell (i:=i) (j:=0) (by simpa[Mg.put] using hi) ag (vi 3) {G.l.getD i default with s:=3} (by dsimp only[iL.lay,Mg.put,iL.view];rw[e];rfl));have hq:dH (G.view.blk i)={G.l.getD i default with s:=3}:=by unfold dH;rw[if_pos hl]
 rw[hq];simpa only[iL.lay,Mg.put,iL.view,ac2,Nat.add_zero] using h2
def Held.Wy (h:Held aA w m G M)(hi:i<G.l.length)(hl:¬(G.l.getD i default).l=0):bJ aA w m G M (w.setCell ⟨G.gl,i*4,none⟩ (vi 2)) (G.view.put i (dH (G.view.blk i))) M:=by
 have h1:=h.cell hi (j:=0) ag (vi 2) {G.l.getD i default with s:=2} rfl;have hq:dH (G.view.blk i)={G.l.getD i default with s:=2}:=by unfold dH;rw[if_neg hl]
 rw[hq];exact h1
def bJ.shut (h:bJ aA w m G M w' g' M')(ha:(i:Int)=g'.at_):bJ aA w m G M (w'.setCell ⟨m,2,none⟩ (vi (-1))) (g'.shut i) M':=by
 have:=h.trans (h.at_.field 2 (vi (-1)) {g' with at_:= -1} rfl rfl);have e:g'.shut i={g' with at_:= -1}:=by unfold Mg.shut;rw[if_pos ha]
 rw[e];exact this
def bJ.EU (h:bJ aA w m G M w' g' M')(ha:¬(i:Int)=g'.at_):bJ aA w m G M w' (g'.shut i) M':=by
 have e:g'.shut i=g':=by unfold Mg.shut;rw[if_neg ha]
 rw[e];exact h
def xy (h:Held aA w m G M)(i:Nat)(hi:i<G.l.length):ac4 prog 205 #[ptr m,vi i] w λe w'=>e=ab4 (adg #[])/\bJ aA w m G M w' (G.view.close i) M:=by
 obtain⟨c0,c1,c2,c3,c4,c5⟩:=h.cells;have z0:=h.mgr.row.frozen (i*4);have z2:=h.mgr.mgr.frozen 2;have hne:=h.ne;have hi0:(0:Int)<=(i:Int):=aa;have hi1:(i:Int)<(G.l.length:Int):=aa;obtain⟨d0,d1,d2,d3⟩:=h.j3 hi;have hne':¬G.gl=m:=λe=>hne e.symm
 have HA:Hid (G.view.close i=(G.view.put i (dH (G.view.blk i))).shut i):=az rfl;by_cases hl:(G.l.getD i default).l=0
 ·have HG:=az (h.Wx hi hl);rw[hl]at d1;clear c0 c3 c4 c5 d2 d3 h hi hl;by_cases ha:(i:Int)=G.at_
  ·have hq:((i:Int)==G.at_)=true:=by simp[ha]
   have HE:=az (HG.o.shut (i:=i) ha);clear HG ha;generalize G.view.close i=V at*;generalize (G.view.put i (dH (G.view.blk i))).shut i=V' at*;go_in;go_wp2_with fail;go_end0;exact⟨rfl,by rw[HA.o];exact HE.o⟩
  have hq:((i:Int)==G.at_)=false:=by simp[ha]
  have HE:=az (HG.o.EU (i:=i) ha);clear HG ha;generalize G.view.close i=V at*;generalize (G.view.put i (dH (G.view.blk i))).shut i=V' at*;go_in;go_wp2_with fail;go_end0;exact⟨rfl,by rw[HA.o];exact HE.o⟩
 have HG:=az (h.Wy hi hl);have hl':((G.l.getD i default).l==0)=false:=by simpa using hl
 generalize (G.l.getD i default).l=n at*;clear c0 c3 c4 c5 d2 d3 h hi hl;by_cases ha:(i:Int)=G.at_
 ·have hq:((i:Int)==G.at_)=true:=by simp[ha]
  have HE:=az (HG.o.shut (i:=i) ha);clear HG ha;generalize G.view.close i=V at*;generalize (G.view.put i (dH (G.view.blk i))).shut i=V' at*;go_in;go_wp2_with fail;go_end0;exact⟨rfl,by rw[HA.o];exact HE.o⟩
 have hq:((i:Int)==G.at_)=false:=by simp[ha]
 have HE:=az (HG.o.EU (i:=i) ha);clear HG ha;generalize G.view.close i=V at*;generalize (G.view.put i (dH (G.view.blk i))).shut i=V' at*;go_in;go_wp2_with fail;go_end0;exact⟨rfl,by rw[HA.o];exact HE.o⟩
def Ia (P:gcs.aD->Bool)(Q:gcs.aD->gcs.aD->Bool)(bs:List gcs.aD)(k:Nat):gcs.bestTo P Q bs (k+1)=if P (bs.getD k default)&&(decide (gcs.bestTo P Q bs k<0)||Q (bs.getD k default) (bs.getD (gcs.bestTo P Q bs k).toNat default)) then (k:Int) else gcs.bestTo P Q bs k:=rfl
def bJ.gU (h:bJ aA w m G M w' g' M)(hi:i<g'.l.length):bJ aA w m G M (((((w'.setCell ⟨G.gl,i*4,none⟩ (vi 1)).setCell ⟨G.gl,i*4+1,none⟩ (vi 0)).setCell ⟨G.gl,i*4+2,none⟩ (vi (g'.blk i).r)).setCell ⟨G.gl,i*4+3,none⟩ (vi 0)).setCell ⟨m,2,none⟩ (vi i)) (g'.gU i) M:=by
 have h1:=h.trans (h.at_.block hi ⟨1,0,(g'.blk i).r,0⟩);exact h1.trans (h1.at_.field 2 (vi i) (g'.gU i) rfl rfl)
def qX (w:acL)(o:Obj):acN w.heap.size w (w.alloc o):=ak.alloc aj o
def sH (h:Held aA w m G M):ac4 prog 203 #[ptr m] w λe w'=>e=ab4 (acg (decide (0<=G.view.freeI)))/\bJ aA w m G M w' G.view.begun M:=by
 obtain⟨c0,c1,c2,c3,c4,c5⟩:=h.cells;have hlen:G.l.length<=9223372036854775807:=by obtain⟨cur,_,h1,h2,_⟩:=h.mgr.row.blk;unfold maxLen at h2;omega
 have hne:=h.ne;have hgl:=h.mgr.row.lt;have Df:=h.mgr.mgr.lt;have H:=az h;clear c0 c2 c3 c4 c5 h;go_in;go_wp2_with fail;go_loopw [3,11] (λat_ i wr=>∃k:Nat,k<=G.l.length/\i=vi k/\at_=vi (gcs.bestTo freeB gcs.fH G.l k)/\acN w.heap.size w wr) (λ_ i _=>G.l.length-(intOf i).toNat)
 case atStart=>exact⟨0,aaW _,rfl,rfl,ak⟩
 case round =>
  obtain⟨k,hk,rfl,rfl,hb⟩:=hrel;have hbd:=gcs.xm freeB gcs.fH G.l k;by_cases hlt:k<G.l.length
  ·have H1:=az (H.o.old hb);obtain⟨d0,d1,d2,d3⟩:=H1.o.j3 hlt;have c1':wr.cell? ⟨m,1,none⟩=some (aco (some ⟨G.gl,0,none⟩) G.l.length G.cl):=H1.o.cells.2.1;have hst:=az (Ia freeB gcs.fH G.l k);generalize hnx:gcs.bestTo freeB gcs.fH G.l (k+1)=nx at*;generalize hat:gcs.bestTo freeB gcs.fH G.l k=at_ at*;generalize G.l.getD k default=x at*;obtain⟨xs,xl,xr,xn⟩:=x;dsimp only at*;have HW:Hid (acN w.heap.size w (wr.alloc (ach #[vi xs,vi xl,vi xr,vi xn] 193))):=az (hb.alloc hb.size _);have F0:(wr.alloc (ach #[vi xs,vi xl,vi xr,vi xn] 193)).cell? ⟨wr.heap.size,0,none⟩=some (vi xs):=(aD.new _ _ _).cell 0
   have F2:(wr.alloc (ach #[vi xs,vi xl,vi xr,vi xn] 193)).cell? ⟨wr.heap.size,2,none⟩=some (vi xr):=(aD.new _ _ _).cell 2;have C1:(wr.alloc (ach #[vi xs,vi xl,vi xr,vi xn] 193)).cell? ⟨m,1,none⟩=some (aco (some ⟨G.gl,0,none⟩) G.l.length G.cl):=cell_below c1' (qX _ _);have fin:∀(y:Int) (W:acL),nx=y->acN w.heap.size w W->∃k':Nat,k'<=G.l.length/\vi ((k:Int)+1)=vi k'/\vi y=vi (gcs.bestTo freeB gcs.fH G.l k')/\acN w.heap.size w W :=
    λy W hy hW=>⟨k+1,aa,ai,by rw[hnx,hy],hW⟩
   have FIN:=az fin;have H2:=az (H1.o.old (qX wr (ach #[vi xs,vi xl,vi xr,vi xn] 193)));clear fin hat hb H1 hnx;by_cases hs:xs=0
   ·have QQ:(xs==0)=true:=beq_iff_eq.2 hs;by_cases ha:at_= -1
    ·have hq:(at_== -1)=true:=beq_iff_eq.2 ha;have HN:Hid (nx=(k:Int)):=az (by rw[hst.o,if_pos];simp[freeB,hs,ha]);clear hs ha hst;go_upto_region 5 with fail;clear d0 d1 d2 d3 c1';generalize wr.alloc (ach #[vi xs,vi xl,vi xr,vi xn] 193)=w1 at*;go_quiet (fail);go_wp2;go_roundw
     case rel=>exact FIN.o _ _ HN.o (below_drewN HW.o _)
     case measure=>simp[intOf];omega
    have hq:(at_== -1)=false:=beq_eq_false_iff_ne.2 ha;obtain⟨j,rfl⟩:∃j:Nat,at_=j:=⟨at_.toNat,aa⟩;have hj:j<G.l.length:=aa;have hj0:(0:Int)<=(j:Int):=aa;have hj1:(j:Int)<(G.l.length:Int):=aa;have e2:=(H2.o.j3 hj).2.2.1;have HN:Hid (nx=if xr<(G.l.getD j default).r then (k:Int) else (j:Int)):=az (by
     rw[hst.o]
     have:¬(j:Int)<0:=aa
     by_cases hy:xr<(G.l.getD j default).r
     rw[if_pos hy,if_pos];simp only[freeB,hs,gcs.fH,acW,decide_eq_true hy];simp
     rw[if_neg hy,if_neg];simp only[freeB,hs,gcs.fH,acW,decide_eq_false hy];simp)
    generalize (G.l.getD j default).r=yr at*;clear hs ha hst;by_cases hy:xr<yr
    ·have hyd:decide (xr<yr)=true:=decide_eq_true hy;rw[if_pos hy]at HN;go_upto_region 5 with fail;clear d0 d1 d2 d3 c1';generalize wr.alloc (ach #[vi xs,vi xl,vi xr,vi xn] 193)=w1 at*;go_quiet (fail);go_wp2;go_roundw
     case rel=>exact FIN.o _ _ HN.o (below_drewN HW.o _)
     case measure=>simp[intOf];omega
    have hyd:decide (xr<yr)=false:=decide_eq_false hy;rw[if_neg hy]at HN;go_upto_region 5 with fail;clear d0 d1 d2 d3 c1';generalize wr.alloc (ach #[vi xs,vi xl,vi xr,vi xn] 193)=w1 at*;go_quiet (fail);go_wp2;go_roundw
    case rel=>exact FIN.o _ _ HN.o (below_drewN HW.o _)
    case measure=>simp[intOf];omega
   have QQ:(xs==0)=false:=beq_eq_false_iff_ne.2 hs;have HN:Hid (nx=at_):=az (by rw[hst.o,if_neg];simp[freeB,hs]);clear hs hst;go_upto_region 5 with fail;clear d0 d1 d2 d3 c1';generalize wr.alloc (ach #[vi xs,vi xl,vi xr,vi xn] 193)=w1 at*;go_quiet (fail);go_wp2;go_roundw
   case rel=>exact FIN.o _ _ HN.o (below_drewN HW.o _)
   case measure=>simp[intOf];omega
  obtain rfl:k=G.l.length:=aa;have HG:=az (bJ.aX H.o hb);generalize hat:gcs.bestTo freeB gcs.fH G.l G.l.length=at_ at*;have HF:Hid (G.view.freeI=at_):=az hat;clear hat;by_cases ha:at_= -1
  ·have hq:(at_== -1)=true:=beq_iff_eq.2 ha;have HQ:Hid (G.view.begun=G.view/\decide (0<=G.view.freeI)=false):=az (by
    refine⟨?_,?_⟩
    unfold Mg.begun;rw[HF.o,if_pos aa]
    rw[HF.o];simp[ha])
   clear ha hb;go_wp2;go_ret;exact⟨aU HQ.o.2.symm,by rw[HQ.o.1];exact HG.o⟩
  have hq:(at_== -1)=false:=beq_eq_false_iff_ne.2 ha;obtain⟨j,rfl⟩:∃j:Nat,at_=j:=⟨at_.toNat,aa⟩;have hj:j<G.l.length:=aa;have hj0:(0:Int)<=(j:Int):=aa;have hj1:(j:Int)<(G.l.length:Int):=aa;have HQ:Hid (G.view.begun=G.view.gU j/\decide (0<=G.view.freeI)=true):=az (by
   refine⟨?_,?_⟩
   unfold Mg.begun;rw[HF.o,if_neg aa,acW]
   rw[HF.o];simp)
  have H1:=az (H.o.old hb);obtain⟨d0,d1,d2,d3⟩:=H1.o.j3 hj;have c1':wr.cell? ⟨m,1,none⟩=some (aco (some ⟨G.gl,0,none⟩) G.l.length G.cl):=H1.o.cells.2.1;have c2':wr.cell? ⟨m,2,none⟩=some (vi G.at_):=H1.o.cells.2.2.1;have z:=λj=>H1.o.mgr.row.frozen j
  have z2:=H1.o.mgr.mgr.frozen 2;have HO:=az (((HG.o.old au).gU (i:=j) hj));have hne':¬G.gl=m:=λe=>hne e.symm
  have z00:=z (j*4);have z01:=z (j*4+1);have z02:=z (j*4+2);have z03:=z (j*4+3);generalize (G.l.getD j default).s=s at*;generalize (G.l.getD j default).l=l at*;change Hid (bJ aA w m G M (((((wr.drew.setCell ⟨G.gl,j*4,none⟩ (vi 1)).setCell ⟨G.gl,j*4+1,none⟩ (vi 0)).setCell ⟨G.gl,j*4+2,none⟩ (vi (G.l.getD j default).r)).setCell ⟨G.gl,j*4+3,none⟩ (vi 0)).setCell ⟨m,2,none⟩ (vi j)) _ M) at HO;generalize (G.l.getD j default).r=r at*;generalize (G.l.getD j default).n=n at*;clear ha hb z H1 HG;go_wp2_with fail;go_still_tail 15,ah;change wpList _ _ _ _ _ wr.drew;go_wp2
  go_ret;exact⟨aU HQ.o.2.symm,by rw[HQ.o.1];exact HO.o⟩
end mgr
open RowKit
def and_one:bits .and .u64 (1:Int) 4294967295=1:=ah
def Wz (n:Nat)(h:n<=900000):bits .and .u64 (n:Int) 4294967295=(n:Int):=by
 have h1:=bits_and_u64_nat n 4294967295 aa aa;rw[show n &&& 4294967295=n by
  have:=Nat.and_two_pow_sub_one_eq_mod n 32
  rw[show (2:Nat) ^ 32-1=4294967295 by decide]at this
  rw[this]
  exact Nat.mod_eq_of_lt aa]at h1
 exact h1
def Oh (n:Nat)(w:acL)(hn:n<=900000):ac4 prog 209 #[vq 1,vq n] w λe w'=>e=ab4 (adg #[vq 0,vq n])/\w'=w:=by
 have h1:=and_one;have h2:=Wz n hn;have h3:bits .and .u64 (0:Int) 4294967295=0:=ah;have h4:(n:Int)/4294967296=0:=aa;go_in;go_wp2;go_ret2;simp
def WA (n:Nat)(w:acL)(hn:n<=900000):ac4 prog 176 #[vq 1,vq n] w λe w'=>e=ab4 (adg #[vq 0,vq n])/\w'=w:=by
 go_in;go_wp2_with fail;refine(Oh n w hn).mono ?_;rintro e w' ⟨rfl,rfl⟩;go_wp2;go_ret2;exact⟨rfl,rfl⟩
variable{w w':acL}{K:Act->acL->Prop}{Q:Exit->Act->acL->Prop}{E:Prop}{u:TypeId}{src v':acK}
def Oi {ops:Array Oper}{o:Oper}{a:Act}(s x:Operand){t:TypeId}{v:acK}
  (hrun:vH t u o.type v src w v' w') (hgd:o.guard=none) (ho:o.op=.call {callee:=.builtin .copy,args:=#[s,x],argTypes:=#[t,u]}) (hs:a.eval s=v) (hx:a.eval x=src) (h:K (a.put o.dst v') w'):if Region.wanted o (yielded ops a.tmps)=true then Oper.wp prog o a w K Q else E:=by
 have hw:Region.wanted o (yielded ops a.tmps)=true:=by simp[Region.wanted,hgd]
 rw[if_pos hw];unfold Oper.wp execOp;simp only[ho,resolve,invoke,builtin,Sem.run_bind,Sem.run_pure,Result.andThen_ok,List.map_toArray,List.map_cons,List.map_nil,hs,hx,hrun.run];exact h
def RO (n q y:Nat)(hq:q<=n):(aaA q y++aaA (n-q) 0).take q++(aaA q y).take (n-q)++(aaA q y++aaA (n-q) 0).drop (q+min q (n-q))=aaA (q+min q (n-q)) y++aaA (n-(q+min q (n-q))) 0:=by
 have e1:(aaA q y++aaA (n-q) 0).take q=aaA q y:=by
  rw[List.take_append_of_le_length ai,ac0 ai]
 have e2:(aaA q y).take (n-q)=aaA (min q (n-q)) y:=by
  rw[List.take_replicate,Nat.min_comm]
 have e3:(aaA q y++aaA (n-q) 0).drop (q+min q (n-q))=aaA (n-(q+min q (n-q))) 0:=by
  rw[List.drop_append,List.drop_eq_nil_of_le ai,List.nil_append,abP,List.drop_replicate];congr 1;omega
 rw[e1,e2,e3,<-List.replicate_append_replicate]
def Kb (a:Option acM)(y n c:Nat)(w:acL)(h:bE w a [y])(hn:n<=900000)(hn1:1<=n) :
  ac4 prog 148 #[aco a 1 c,vi n] w λe w'=>∃v',e=ab4 v'/\Own w' w.heap.size v' (aaA n y)/\acN w.heap.size w w':=by
 have hmk:=gp n aa;have HO:=az (xz w n aa);have HB:=az ((acN.refl w.heap.size w).alloc aj (ach (madeCells #[vb 0] n) 5));have HR:=az (h.below ((acN.refl w.heap.size w).alloc aj (ach (madeCells #[vb 0] n) 5)));have zi:=az (h.small y ai);clear h;go_in;go_wp2_with fail;refine(WA n w hn).mono ?_;rintro e w' ⟨rfl,rfl⟩;obtain⟨w2,hrun,ho,hg⟩:=pz HO.o (abP ..).symm 0 (aaW _) HR.o c n;rw[show min [y].length (n-0)=1 by simp;omega]at hrun;have Og:=az hrun;have yz:Hid (Own w2 w'.heap.size (aco (some ⟨w'.heap.size,0,none⟩) n n) (aaA 1 y++aaA (n-1) 0)):=az (by
  have e:aaA 1 y++aaA (n-1) 0=(aaA n 0).take 0++[y].take (n-0)++(aaA n 0).drop (0+min [y].length (n-0)):=by
   rw[show min [y].length (n-0)=1 by simp;omega,ac0 (l:=[y]) (by simp;omega),List.take_zero,List.drop_replicate]
   rfl
  rw[e]
  exact ho)
 have HB2:=az (HB.o.grown hg ai (λx hx=>by injection hx with hx;omega));clear hrun ho hg;go_wp2_with (refine wpList_copy_run rfl (.tmp 31) (.tmp 32) rfl rfl rfl Og.o ?_);clear hmk Og HO HB HR;generalize hgg:w'.heap.size=g at*;have HG:=az hgg;clear hgg;go_loopw [8] (λi wr=>∃q:Nat,1<=q/\q<=n/\i=vi q/\Hid (Own wr g (aco (some ⟨g,0,none⟩) n n) (aaA q y++aaA (n-q) 0))/\Hid (acN g w' wr)) (λi _=>n-(intOf i).toNat)
 case atStart=>exact⟨1,aj,hn1,rfl,yz,HB2⟩
 case round =>
  obtain⟨q,hq1,hq,rfl,ho,hb⟩:=hrel;by_cases hlt:q<n
  ·have hl:n=(aaA q y++aaA (n-q) 0).length:=by simp;omega
   obtain⟨ar,cr,hv,hrow,-⟩:=ho.o.drew.row (by
    have hy:=ho.o
    intro x hx
    rcases aaS.1 hx with hx|hx
    rw[(aaE.1 hx).2]
    exact zi.o
    rw[(aaE.1 hx).2];omega)
   rw[<-hl]at hv;injection hv with hv _ hv2;subst hv hv2;have hrq:=hrow.take q;rw[List.take_append_of_le_length ai,ac0 ai]at hrq;obtain⟨w3,hrun,ho3,hg3⟩:=pz ho.o.drew hl q hq hrq n (n-q);rw[abP]at hrun ho3;rw[RO n q y hq]at ho3;have RC:vH 23 23 3 (aco (some ⟨g,q,none⟩) (n-q) (n-q)) (aco (some ⟨g,0,none⟩) q n) wr.drew (vi (min q (n-q):Nat)) w3:=hrun;generalize hmm:min q (n-q)=mm at*;have amh:1<=mm/\mm<=n-q:=aa;clear hmm;have hws:adk.wrap ((q:Int)+(mm:Int))=(q:Int)+(mm:Int):=adl _ aa;have EW:=az ho3
   have HB3:=az (hb.o.drew.grown hg3 (show g<=wr.heap.size by have:=hb.o.size;have:=HG.o;omega) (λx hx=>by injection hx with hx;omega));have hs1:(0:Int)<=(q:Int):=aa;have hs2:(q:Int)<=(n:Int):=aa;have hs3:¬n=q:=aa;clear hrun ho3 hg3 hrow hrq ho hb hl;go_wp2_with fail;go_region_law (refine Oi (.tmp 41) (.tmp 44) RC (by rfl) (by rfl) (by go_simp) (by go_simp) ?_);all_goals
    go_simp;go_roundw
    case rel=>exact⟨_,_,_,_,_,_,_,_,_,_,_,_,_,_,⟨q+mm,aa,aa,by go_num,EW,HB3⟩,rfl⟩
    case measure=>simp[intOf];omega
  obtain rfl:q=n:=aa;have ho':=ho.o;rw[Nat.sub_self,List.replicate_zero,List.append_nil]at ho';have HO':=az ho';clear ho ho';go_wp2;go_ret;exact⟨_,rfl,by rw[HG.o];exact HO'.o,by rw[HG.o];exact hb.o⟩
variable{aA:Nat}{w:acL}{k:Nat}{M:dA}
def Kc (M:dA)(j:Int):Bool:=if 0<=j/\j<M.bs.length then (M.bs.getD j.toNat default).bad else true
def vI (M:dA)(j:Int):Int:=if 0<=j/\j<M.bs.length then (M.bs.getD j.toNat default).eF else 0
def EX (h:aT aA w k M)(j:Int):ac4 prog 85 #[ptr k,vi j] w λe w'=>e=ab4 (acg (Kc M j))/\w'=w:=by
 obtain⟨c0,c1,c2,c3,c4,c5,c6,c7,c8⟩:=h.cells;by_cases hj:0<=j/\j<M.bs.length
 ·obtain⟨i,rfl⟩:∃i:Nat,j=i:=⟨j.toNat,aa⟩;have hi:i<M.bs.length:=aa;have ht:=az (show fC M i=true by simp[fC];omega);have hc:w.cell? ⟨M.kb,i*5+3,none⟩=some (acg (M.bs.getD i default).bad):=h.iG hi (j:=3) ag;have HC:=az h;have HJ:=az hj;generalize hb:(M.bs.getD i default).bad=b at*;have HB:=az hb;clear h c0 c1 c2 c4 c5 c6 c7 c8 hj hb;go_in;go_wp2_with fail;refine(dP HC.o i).mono ?_;rintro e w' ⟨rfl,rfl⟩;rw[ht.o];go_wp2;go_ret;exact⟨aU (by rw[Kc,if_pos HJ.o,acW,HB.o]),rfl⟩
 have ht:=az (show fC M j=false by simp[fC];omega);have HC:=az h;have HJ:=az hj;clear h c0 c1 c2 c3 c4 c5 c6 c7 c8 hj;go_in;go_wp2_with fail;refine(dP HC.o j).mono ?_;rintro e w' ⟨rfl,rfl⟩;rw[ht.o];go_wp2;go_ret;exact⟨aU (by rw[Kc,if_neg HJ.o]),rfl⟩
def Aw (h:aT aA w k M)(j:Int):ac4 prog 123 #[ptr k,vi j] w λe w'=>e=ab4 (vi (vI M j))/\w'=w:=by
 obtain⟨c0,c1,c2,c3,c4,c5,c6,c7,c8⟩:=h.cells;by_cases hj:0<=j/\j<M.bs.length
 ·obtain⟨i,rfl⟩:∃i:Nat,j=i:=⟨j.toNat,aa⟩;have hi:i<M.bs.length:=aa;have ht:=az (show fC M i=true by simp[fC];omega);have hc:w.cell? ⟨M.kb,i*5+4,none⟩=some (vi (M.bs.getD i default).eF):=h.iG hi (j:=4) ag;have HC:=az h;have HJ:=az hj;generalize hb:(M.bs.getD i default).eF=b at*;have HB:=az hb;clear h c0 c1 c2 c4 c5 c6 c7 c8 hj hb;go_in;go_wp2_with fail;refine(dP HC.o i).mono ?_;rintro e w' ⟨rfl,rfl⟩;rw[ht.o];go_wp2;go_ret;exact⟨bS (by rw[vI,if_pos HJ.o,acW,HB.o]),rfl⟩
 have ht:=az (show fC M j=false by simp[fC];omega);have HC:=az h;have HJ:=az hj;clear h c0 c1 c2 c3 c4 c5 c6 c7 c8 hj;go_in;go_wp2_with fail;refine(dP HC.o j).mono ?_;rintro e w' ⟨rfl,rfl⟩;rw[ht.o];go_wp2;go_ret;exact⟨bS (by rw[vI,if_neg HJ.o]),rfl⟩
def Oj (M:dA)(i:Nat)(q:sD):dA:={M with bs:=M.bs.set i {M.bs.getD i default with ps:=(M.bs.getD i default).ps.set (M.bs.getD i default).next q,next:=(M.bs.getD i default).next+1}}
variable{i:Nat}
def getD_map {α β:Type}{f:α->β}{l:List α}{d:α}{d':β}(h:i<l.length):(l.map f).getD i d'=f (l.getD i d):=by
 simp[aah,aaj h]
def kM (h:i<M.bs.length):M.view.blk i=(M.bs.getD i default).view:=getD_map h
def xA {q:sD}(h:i<M.bs.length):(Oj M i q).view=NP.ni M.view i q.l:=by
 unfold Oj NP.ni NP.gI;dsimp only;rw[kM h];simp[dA.view,eG.view,ade]
def sI (h:aT aA w k M)(i:Nat)(hi:i<M.bs.length)(hn:(M.bs.getD i default).next<(M.bs.getD i default).ps.length)(hp:(M.bs.getD i default).ps.length<=32)(q:sD)(hq:q.ok aA w) :
  ac4 prog 231 #[adj (some ⟨M.kb,i*5,none⟩),q.v] w λe w'=>e=ab4 (adg #[])/\Goes aA w k M w' (Oj M i q):=by
 have hD:=bL (d:=default) hi;have c0:w.cell? ⟨M.kb,i*5,none⟩=_:=h.iG hi (j:=0) ag;have c1:w.cell? ⟨M.kb,i*5+1,none⟩=some (vi (M.bs.getD i default).next):=h.iG hi (j:=1) ag;have cp:=h.Hq hi hn;have z1:=h.blocks.frozen (i*5+1);have zp:=(h.pages _ hD).frozen (M.bs.getD i default).next;have hne:=(h.EN hD).2;have G1:=(h.old au).aB hi (p:=(M.bs.getD i default).next) q (hq.aJ (F:=λ_=>False) (aP.of_below au) (λ_ e=>e.elim));have hi1:i<(M.bs.set i {M.bs.getD i default with ps:=(M.bs.getD i default).ps.set (M.bs.getD i default).next q}).length:=by simpa using hi
 have hg1:(M.bs.set i {M.bs.getD i default with ps:=(M.bs.getD i default).ps.set (M.bs.getD i default).next q}).getD i default={M.bs.getD i default with ps:=(M.bs.getD i default).ps.set (M.bs.getD i default).next q}:=by
  rw[NP.iO _ _ _ _ _ hi,if_pos rfl]
 have G2:=G1.at_.Ag (i:=i) (j:=1) hi1 ag (vi ((M.bs.getD i default).next+1:Nat)) {M.bs.getD i default with ps:=(M.bs.getD i default).ps.set (M.bs.getD i default).next q,next:=(M.bs.getD i default).next+1} (by dsimp only;rw[hg1];rfl) (by dsimp only;rw[hg1]) (by dsimp only;rw[hg1]) (by dsimp only;rw[hg1]);have HG:Hid (Goes aA w k M _ (Oj M i q)):=az (by
  have:=(Goes.aX h au).trans (G1.trans G2)
  dsimp only at this
  rw[ac2]at this
  exact this)
 simp only[eG.cells,List.getElem?_cons_zero]at c0;clear G1 G2 hi1 hg1 hD h hq;generalize M.bs.getD i default=x at*;obtain⟨xg,xc,xps,xn,xb,xd,xw⟩:=x;dsimp only at*;go_in;have hs1:(0:Int)<=(xn:Int):=aa;have hs2:(xn:Int)<(xps.length:Int):=aa;have hne':¬M.kb=xg:=λe=>hne e.symm
 go_wp2_with fail;go_still_tail 10,ah;change wpList _ _ _ _ _ w.drew;go_wp2_with fail;go_end0;exact⟨rfl,HG.o⟩
def qY (x:Int):NP.qH x=wrap64 x:=by unfold NP.qH wrap64;rfl
def iw (M:dA):dA:={M with since:=NP.qH (M.since+1),dQ:=NP.qH (M.dQ+1)}
def faultM:List tY->Int->tY
 |[],_=>default
 |f::l,a=>if f.at_=a then f else faultM l a
def faultM_view:∀(l:List tY) (a:Int),(faultM l a).view=NP.faultOf (l.map (·.view)) a
 |[],_=>rfl
 |f::l,a=>by
  unfold faultM
  rw[List.map_cons,NP.faultOf]
  show _=if f.at_=a then _ else _
  split
  rfl
  exact faultM_view l a
def faultM_drop {l:List tY}(a:Int)(h:i<l.length):faultM (l.drop i) a=if (l.getD i default).at_=a then l.getD i default else faultM (l.drop (i+1)) a:=by
 rw[adb h,faultM,aah,aaj h];rfl
def faultM_mem:∀(l:List tY) (a:Int),faultM l a=default\/faultM l a∈l
 |[],_=>ack rfl
 |f::l,a=>by
  unfold faultM
  split
  exact acm ai
  rcases faultM_mem l a with h|h
  exact ack h
  exact acm (by simp[h])
def fault_result {g:Nat}{f:tY}(hb:aD w' g 186 f.cs)(tmps:Array acK)(h2:tmps[2]?=some (adj (some ⟨g,0,none⟩))) :
  (results Tryz.f121 tmps).run prog w'=.ok (.agg f.cs) w':=by
 have g0:w'.cell? ⟨g,0,none⟩=some (vi f.at_):=hb.cell 0;have g1:w'.cell? ⟨g,1,none⟩=some (vi f.aL):=hb.cell 1;have g2:w'.cell? ⟨g,2,none⟩=some (aco f.a f.l.length f.c):=hb.cell 2;simp only[results,results121];simp[go_sem,h2,g0,g1,g2]
section
abbrev flt0:Array acK:=#[vi 0,vi 0,aco none 0 0]
def size_set (w:acL)(p:acM)(v:acK):(w.setCell p v).heap.size=w.heap.size:=by simp[acL.setCell]
structure qZ (w:acL)(k:Nat)(M:dA)(cs0 cs1:Array acK)(wr:acL):Prop where
 aJ:aP (λn=>n=k) w wr
 aW:aD wr k 144 (iw M).cs
 b0:aD wr w.heap.size 186 cs0
 b1:aD wr (w.heap.size+1) 186 cs1
 hk:k<w.heap.size
variable{cs0 cs1:Array acK}{wr:acL}
def qZ.alloc (h:qZ w k M cs0 cs1 wr)(o:Obj):qZ w k M cs0 cs1 (wr.alloc o):=⟨h.aJ.alloc o,h.aW.alloc o,h.b0.alloc o,h.b1.alloc o,h.hk⟩
def qZ.set0 (h:qZ w k M cs0 cs1 wr)(j:Nat)(u:acK):qZ w k M (cs0.setIfInBounds j u) cs1 (wr.setCell ⟨w.heap.size,j,none⟩ u) :=
 ⟨h.aJ.setCell (acm aj) u,h.aW.far (p:=⟨w.heap.size,j,none⟩) (by have:=h.hk;dsimp only;omega) u,h.b0.bB j u,h.b1.far (p:=⟨w.heap.size,j,none⟩) (by dsimp only;omega) u,h.hk⟩
def qZ.set1 (h:qZ w k M cs0 cs1 wr)(j:Nat)(u:acK):qZ w k M cs0 (cs1.setIfInBounds j u) (wr.setCell ⟨w.heap.size+1,j,none⟩ u) :=
 ⟨h.aJ.setCell (acm (Nat.le_succ _)) u,h.aW.far (p:=⟨w.heap.size+1,j,none⟩) (by have:=h.hk;dsimp only;omega) u,h.b0.far (p:=⟨w.heap.size+1,j,none⟩) (by dsimp only;omega) u,h.b1.bB j u,h.hk⟩
def fault_any (h:aT aA w k M):ac4 prog 121 #[ptr k] w λe w'=>e=ab4 (.agg (faultM M.fs M.since).cs)/\Goes aA w k M w' (iw M):=by
 obtain⟨c0,c1,c2,c3,c4,c5,c6,c7,c8⟩:=h.cells;have z5:=h.aW.frozen 5;have z7:=h.aW.frozen 7;have hk:=h.aW.lt;have HC:=az h;have hfl:M.fs.length<=9223372036854775807:=by have:=h.faults.len;unfold maxLen at this;omega
 have hz:((w.setCell ⟨k,5,none⟩ (vi (wrap64 (M.since+1)))).setCell ⟨k,7,none⟩ (vi (wrap64 (M.dQ+1)))).heap.size=w.heap.size:=by rw[size_set,size_set]
 have st:qZ w k M flt0 flt0 ((((w.setCell ⟨k,5,none⟩ (vi (wrap64 (M.since+1)))).setCell ⟨k,7,none⟩ (vi (wrap64 (M.dQ+1)))).alloc (ach flt0 186)).alloc (ach flt0 186)) :=
  ⟨((((aP.refl (λn=>n=k) w).setCell (p:=⟨k,5,none⟩) (ack rfl) _).setCell (p:=⟨k,7,none⟩) (ack rfl) _).alloc _).alloc _,by
   have:=(((h.aW.bB 5 (vi (wrap64 (M.since+1)))).bB 7 (vi (wrap64 (M.dQ+1)))).alloc (ach flt0 186)).alloc (ach flt0 186)
   rw[<-qY,<-qY]at this
   rw[<-qY,<-qY]
   exact this,by
   have:=(aD.new ((w.setCell ⟨k,5,none⟩ (vi (wrap64 (M.since+1)))).setCell ⟨k,7,none⟩ (vi (wrap64 (M.dQ+1)))) 186 flt0).alloc (ach flt0 186)
   rw[hz]at this
   exact this,by
   have:=aD.new (((w.setCell ⟨k,5,none⟩ (vi (wrap64 (M.since+1)))).setCell ⟨k,7,none⟩ (vi (wrap64 (M.dQ+1)))).alloc (ach flt0 186)) 186 flt0
   rw[size_alloc,hz]at this
   exact this,hk⟩
 have ST:=az st;clear h st hz;go_in;go_wp2_with fail;go_step3;go_wp2_with fail;go_step3;go_wp2_with fail;clear c0 c1 c2 c3 c4 c5 c6 c7 c8 z5 z7;have HD:=az (show faultM M.fs M.since=faultM (M.fs.drop 0) M.since by rw[List.drop_zero]);go_loopw [31] (λi wr=>∃j:Nat,j<=M.fs.length/\i=vi j/\Hid (qZ w k M flt0 flt0 wr)/\Hid (faultM M.fs M.since=faultM (M.fs.drop j) M.since)) (λi _=>M.fs.length-(intOf i).toNat)
 case atStart=>exact⟨0,aaW _,rfl,ST,HD⟩
 case round =>
  obtain⟨j,hj,rfl,st,hd⟩:=hrel;have d0:wr.cell? ⟨w.heap.size+1,0,none⟩=some (vi 0):=st.o.b1.cell 0;have d1:wr.cell? ⟨w.heap.size+1,1,none⟩=some (vi 0):=st.o.b1.cell 1;have d2:wr.cell? ⟨w.heap.size+1,2,none⟩=some (aco none 0 0):=st.o.b1.cell 2;have e0:wr.cell? ⟨w.heap.size,0,none⟩=some (vi 0):=st.o.b0.cell 0;have e1:wr.cell? ⟨w.heap.size,1,none⟩=some (vi 0):=st.o.b0.cell 1;have e2:wr.cell? ⟨w.heap.size,2,none⟩=some (aco none 0 0):=st.o.b0.cell 2;have f0:=st.o.b0.frozen 0;have f1:=st.o.b0.frozen 1;have f2:=st.o.b0.frozen 2;have h0:=st.o.b1.frozen 0;have h1:=st.o.b1.frozen 1;have h2:=st.o.b1.frozen 2
  by_cases hlt:j<M.fs.length
  ·obtain⟨b,o,hfa,hcell,-⟩:=(HC.o.faults.aJ st.o.aJ (λn e=>HC.o.mine n (ack e))).lookup hlt;have hdr:=faultM_drop M.since hlt;rw[hfa];generalize M.fs.getD j default=f at hcell hdr;obtain⟨fat,fk,fa,fl,fc⟩:=f;have g0:wr.cell? ⟨b,o+j*3,none⟩=some (vi fat):=hcell 0 _ rfl;have g1:wr.cell? ⟨b,o+j*3+1,none⟩=some (vi fk):=hcell 1 _ rfl;have g2:wr.cell? ⟨b,o+j*3+2,none⟩=some (aco fa fl.length fc):=hcell 2 _ rfl;have hlv:=st.o.b1.lt;have hn0:¬wr.heap.size=w.heap.size:=aa;have hn1:¬wr.heap.size=w.heap.size+1:=aa;have hn2:¬w.heap.size=wr.heap.size:=aa;have Y1:¬w.heap.size+1=wr.heap.size:=aa
   clear hfa;have S1:=az (st.o.alloc (ach #[vi fat,vi fk,aco fa fl.length fc] 186));clear hcell;dsimp only at hdr;by_cases hat:fat=M.since
   ·rw[if_pos hat]at hdr;have HF:=az (hd.o.trans hdr);subst hat;clear hdr d0 d1 d2 e0 e1 e2 f0 f1 f2 h0 h1 h2;go_upto_region 9 with fail;have F9:=aD.new wr 186 #[vi M.since,vi fk,aco fa fl.length fc];clear hn0 hn1 hn2 Y1 g0 g1 g2 st hd;generalize wr.alloc (ach #[vi M.since,vi fk,aco fa fl.length fc] 186)=w9 at*;have d0:w9.cell? ⟨w.heap.size+1,0,none⟩=some (vi 0):=S1.o.b1.cell 0;have d1:w9.cell? ⟨w.heap.size+1,1,none⟩=some (vi 0):=S1.o.b1.cell 1;have d2:w9.cell? ⟨w.heap.size+1,2,none⟩=some (aco none 0 0):=S1.o.b1.cell 2;have e0:w9.cell? ⟨w.heap.size,0,none⟩=some (vi 0):=S1.o.b0.cell 0
    have e1:w9.cell? ⟨w.heap.size,1,none⟩=some (vi 0):=S1.o.b0.cell 1;have e2:w9.cell? ⟨w.heap.size,2,none⟩=some (aco none 0 0):=S1.o.b0.cell 2;have f0:=S1.o.b0.frozen 0;have f1:=S1.o.b0.frozen 1;have f2:=S1.o.b0.frozen 2;have h0:=S1.o.b1.frozen 0;have h1:=S1.o.b1.frozen 1;have h2:=S1.o.b1.frozen 2;have k0:w9.cell? ⟨wr.heap.size,0,none⟩=some (vi M.since):=F9.cell 0;have k1:w9.cell? ⟨wr.heap.size,1,none⟩=some (vi fk):=F9.cell 1;have k2:w9.cell? ⟨wr.heap.size,2,none⟩=some (aco fa fl.length fc):=F9.cell 2;clear F9;generalize wr.heap.size=h6 at*;go_wp2_with fail;rw[Exit.noGoto_ret];have T:=(((((S1.o.set1 0 (vi M.since)).set1 1 (vi fk)).set1 2 (aco fa fl.length fc)).set0 0 (vi M.since)).set0 1 (vi fk)).set0 2 (aco fa fl.length fc)
    refine ac5 (v:=.agg #[vi M.since,vi fk,aco fa fl.length fc]) (fault_result (f:=⟨M.since,fk,fa,fl,fc⟩) T.b0 _ rfl) rfl ⟨by rw[HF.o],HC.o.fields T.aJ T.aW rfl rfl rfl ⟨rfl,rfl⟩⟩
   rw[if_neg hat]at hdr;have HF:=az (hd.o.trans hdr);clear hdr;go_wp2;go_roundw
   case rel=>exact⟨j+1,aa,by go_num,S1,HF⟩
   case measure=>simp[intOf];omega
  obtain rfl:j=M.fs.length:=aa;have HF:Hid (faultM M.fs M.since=default):=az (by rw[hd.o,ai4];rfl);go_wp2_with fail;rw[Exit.noGoto_ret];have T:=((st.o.set0 0 (vi 0)).set0 1 (vi 0)).set0 2 (aco none 0 0);exact ac5 (v:=.agg flt0) (fault_result (f:=default) T.b0 _ rfl) rfl ⟨by rw[HF.o];rfl,HC.o.fields T.aJ T.aW rfl rfl rfl ⟨rfl,rfl⟩⟩
end
def pE (hok:M.view.ok):M.bs.length=M.B:=by
 have:=hok.blocks;simpa[dA.view] using this
def EY (hok:M.view.ok):M.S<=512/\M.P<=32/\M.B<=128:=by
 have:NP.bH M.B M.P M.S=true:=hok.right;simp only[NP.bH,ac8,decide_eq_true_eq,Bool.or_eq_true,beq_iff_eq]at this;omega
def MF (hok:M.view.ok)(hi:i<M.bs.length):(M.bs.getD i default).ps.length=M.P:=by
 have:=hok.pages (M.bs.getD i default).view (ada (bL hi));have h2:((M.bs.getD i default).ps.map (·.l)).length=M.P:=this;rwa[List.length_map]at h2
def MG (hok:M.view.ok)(hi:i<M.bs.length){p:sD}(hp:p∈(M.bs.getD i default).ps):p.l=[]\/p.l.length=M.S+32:=hok.full (M.bs.getD i default).view (ada (bL hi)) p.l (ada hp)
def DZ {p:Nat}(hi:i<M.bs.length)(hp:p<(M.bs.getD i default).ps.length):(M.view.blk i).aB p=((M.bs.getD i default).ps.getD p default).l:=by
 rw[kM hi];exact getD_map hp
def RP (aA:Nat)(w:acL)(k:Nat)(M:dA)(r:(List Nat×Int)×NP.bX)(e:Ending)(w':acL):Prop :=
 ∃v' M',e=ab4 (adg #[v',vi r.1.2])/\Own w' w.heap.size v' r.1.1/\Goes aA w k M w' M'/\M'.view=r.2
def yA (M:dA):dA:={M with reads:=NP.qH (M.reads+1)}
def Read_any (h:aT aA w k M)(hok:M.view.ok)(j p:Int):ac4 prog 101 #[ptr k,vi j,vi p] w (RP aA w k M (NP.bQ M.view j p)):=by
 have hen:=λ(w:acL) (a:Option acM) (n c:Nat)=>Lib.run_eql_slice_nil (P:=prog) w 23 5 a n c 0 0 underlying23;have hB:=pE hok;have HC:=az h;have vJ:=az hB;by_cases he:NP.asked M.view j p=0
 ·obtain⟨hd,hj0,hj1,hp0,hp1⟩:=NP.fB he;change j<M.B at hj1;change p<M.P at hp1;obtain⟨i,rfl⟩:∃i:Nat,j=i:=⟨j.toNat,aa⟩;obtain⟨q,rfl⟩:∃q:Nat,p=q:=⟨p.toNat,aa⟩;have hi:i<M.bs.length:=aa;have hps:=MF hok hi;have hq:q<(M.bs.getD i default).ps.length:=aa;have HQ:Hid (NP.bQ M.view i q=((if ((M.bs.getD i default).ps.getD q default).l=[] then aaA (M.S+32) 255 else ((M.bs.getD i default).ps.getD q default).l,0),(yA M).view)):=az (by
   unfold NP.bQ
   dsimp only
   rw[if_pos he,acW,acW,DZ hi hq]
   rfl)
  have HE:=az he;have hS:=(EY hok).1;have hfl:=MG hok hi (bL (d:=default) hq);have G:=h.field (M':=yA M) 8 (vi (wrap64 (M.reads+1))) (by rw[<-qY];rfl) rfl rfl rfl h.faults;have HG:=az G;obtain⟨c0,c1,c2,c3,c4,c5,c6,c7,c8⟩:=h.cells;have z8:=h.aW.frozen 8;clear c0 c1 c2 c4 c5 c6 c7 c3 hd he G hok h hB;go_in;go_wp2_with fail;refine(cu HC.o vJ.o _ _).mono ?_;rintro e w' ⟨rfl,rfl⟩;rw[HE.o];go_upto_region 5 with fail;generalize w'.setCell ⟨k,8,none⟩ (vi (wrap64 (M.reads+1)))=w1 at*;have c3:w1.cell? ⟨k,3,none⟩=some (.slice (some ⟨M.kb,0,none⟩) M.bs.length M.kc):=HG.o.at_.aW.cell 3
  have d0:w1.cell? ⟨M.kb,i*5,none⟩=some (.slice (some ⟨(M.bs.getD i default).g,0,none⟩) (M.bs.getD i default).ps.length (M.bs.getD i default).c):=HG.o.at_.iG (i:=i) (j:=0) hi ag;have d1:=HG.o.at_.Hq (i:=i) (p:=q) hi hq;have EZ:=HG.o.at_.rows _ (bL (d:=default) hi) _ (bL (d:=default) hq);change w1.cell? ⟨(M.bs.getD i default).g,q,none⟩=some ((M.bs.getD i default).ps.getD q default).v at d1;change (((M.bs.getD i default).ps.getD q default)).ok aA w1 at EZ;clear c8 z8;generalize M.bs.getD i default=x at*;obtain⟨xg,xc,xps,xn,xb,xd,xw⟩:=x;dsimp only at*;generalize xps.getD q default=pg at*
  obtain⟨pa,pl,pc⟩:=pg;dsimp only at*;by_cases hl:pl=[]
  ·have hnil:=EZ.nil hl;injection hnil with h1 h2 h3;subst h1 h2 h3;rw[if_pos rfl]at HQ;clear EZ hfl;go_wp2_with fail;refine(full_any HG.o.at_ hS).mono ?_;rintro e w2 ⟨rfl,rfl⟩;go_wp2_with fail;refine(Av (M.S+32) _ aa).mono ?_;rintro e w3 ⟨v3,rfl,ho3,hb3⟩;have EW:=az (ho3.more HG.o.size);have iR:=az (HG.o.old hb3);clear ho3 hb3;go_wp2;go_ret2;exact⟨v3,yA M,by rw[HQ.o];rfl,by rw[HQ.o];exact EW.o,iR.o,by rw[HQ.o]⟩
  obtain⟨b,o,hab⟩:=EZ.some hl;dsimp only at hab;subst hab;rw[if_neg hl]at HQ;have hln:pl.length<=900000:=by rcases hfl with h|h;exact absurd h hl;omega
  have HR:=az EZ.row.row;clear EZ hfl hl;go_wp2_with fail;refine(jr (some ⟨b,o,none⟩) pl pc _ HR.o hln).mono ?_;rintro e w3 ⟨v3,rfl,ho3,hb3⟩;have EW:=az (ho3.more HG.o.size);have iR:=az (HG.o.old hb3);clear ho3 hb3;go_wp2;go_ret2;exact⟨v3,yA M,by rw[HQ.o];rfl,by rw[HQ.o];exact EW.o,iR.o,by rw[HQ.o]⟩
 have HQ:Hid (NP.bQ M.view j p=(([],NP.asked M.view j p),M.view)):=az (by unfold NP.bQ;dsimp only;rw[if_neg he]);clear hok h hB;go_in;go_wp2_with fail;refine(cu HC.o vJ.o _ _).mono ?_;rintro e w' ⟨rfl,rfl⟩;generalize NP.asked M.view j p=n at*;have hn:((n:Int) != 0)=true:=by simp[he]
 go_wp2;go_ret2;exact⟨_,M,by rw[HQ.o];rfl,by rw[HQ.o];exact Own.nil _ _,Goes.refl HC.o,by rw[HQ.o]⟩
def dD (aA:Nat)(w:acL)(k:Nat)(M:dA)(r:Int×NP.bX)(e:Ending)(w':acL):Prop :=
 ∃M',e=ab4 (vi r.1)/\Goes aA w k M w' M'/\M'.view=r.2
variable{M':dA}
def dD.mk {r:Int×NP.bX}{n:Int}{V:NP.bX}(hr:r=(n,V))(hg:Goes aA w k M w' M')(hv:M'.view=V):dD aA w k M r (ab4 (vi n)) w' :=
 ⟨M',by rw[hr],hg,by rw[hr];exact hv⟩
def MH (M:dA)(d:Bool):dA:={M with down:=d}
variable{l:List Nat}
def Own.aB {b':Nat}{v:acK}(h:Own w' b' v l)(hs:∀x∈l,x<256)(hl:0<l.length):∃q:sD,v=q.v/\q.l=l/\q.ok aA w':=by
 obtain⟨a,c,rfl,hr,h1,h2,h3⟩:=h.Db (aA:=aA) hs;exact⟨⟨a,l,c⟩,rfl,rfl,hr,h1,h2,λe=>by dsimp only at e;rw[e]at hl;simp at hl⟩
def faults_small (h:uM aA w M.fa M.fs):NP.small M.view.fs:=by
 intro f hf;obtain⟨g,hg,rfl⟩:=aay.1 hf;exact(h.data g hg).1.row.small
def fault_row (h:uM aA w M.fa M.fs)(a:Int):dx aA w (faultM M.fs a).a (faultM M.fs a).l:=by
 rcases faultM_mem M.fs a with e|e;rw[e];exact dx.nil _ _ _;exact(h.data _ e).1
def nC (h:aT aA w k M)(hok:M.view.ok)(j p:Int)(a:Option acM)(l:List Nat)(c:Nat)(hr:dx aA w a l):ac4 prog 204 #[ptr k,vi j,vi p,aco a l.length c] w (dD aA w k M (NP.program M.view j p l)):=by
 have hB:=pE hok;have HC:=az h;have vJ:=az hB;have HR:=az hr;obtain⟨c0,c1,c2,c3,c4,c5,c6,c7,c8⟩:=h.cells;clear c0 c1 c2 c4 c5 c6 c7 c8 hr;by_cases he:NP.asked M.view j p=0
 ·obtain⟨hd,hj0,hj1,hp0,hp1⟩:=NP.fB he;change j<M.B at hj1;change p<M.P at hp1;obtain⟨i,rfl⟩:∃i:Nat,j=i:=⟨j.toNat,aa⟩;obtain⟨q,rfl⟩:∃q:Nat,p=q:=⟨p.toNat,aa⟩;have hi:i<M.bs.length:=aa;have hps:=MF hok hi;have hPP:=(EY hok).2.1;have hS:=(EY hok).1;have HQ:Hid (NP.program M.view i q l=if l.length=M.S+32 then
    (if (M.bs.getD i default).bad then (13,M.view)
    else if (M.bs.getD i default).broken||decide ((q:Int)≠((M.bs.getD i default).next:Int)) then (10,M.view)
    else if (faultM M.fs M.since).aL=1 then (4,NP.qg (NP.stroke M.view))
    else if (faultM M.fs M.since).aL=2 then (4,NP.qg (NP.ni (NP.stroke M.view) i (NP.Ad (M.S+32) (faultM M.fs M.since).l)))
    else if (faultM M.fs M.since).aL=3 then (11,NP.ni (NP.stroke M.view) i (NP.Ad (M.S+32) (faultM M.fs M.since).l))
    else (0,NP.ni (NP.stroke M.view) i l)) else (1,M.view)):=az (by
   unfold NP.program
   dsimp only
   rw[if_pos he,acW,kM hi]
   have:NP.faultOf M.view.fs M.view.since=(faultM M.fs M.since).view:=(faultM_view M.fs M.since).symm
   rw[this]
   rfl)
  have HE:=az he;have d1:w.cell? ⟨M.kb,i*5+1,none⟩=some (vi (M.bs.getD i default).next):=h.iG hi (j:=1) ag;have d2:w.cell? ⟨M.kb,i*5+2,none⟩=some (acg (M.bs.getD i default).broken):=h.iG hi (j:=2) ag;have d3:w.cell? ⟨M.kb,i*5+3,none⟩=some (acg (M.bs.getD i default).bad):=h.iG hi (j:=3) ag;clear hd he hok h;by_cases hlen:l.length=M.S+32
  ·rw[if_pos hlen]at HQ;have hlc:((l.length:Int) != (M.S:Int)+32)=false:=by simp;omega
   cases hbad:(M.bs.getD i default).bad
   ·cases hbr:(M.bs.getD i default).broken
    ·by_cases hn:q=(M.bs.getD i default).next
     ·rw[hbad,hbr,<-hn]at HQ;rw[if_neg ai,if_neg ai]at HQ;rw[hbad]at d3;rw[hbr]at d2;rw[<-hn]at d1;have HN:=az hn;have hqq:((q:Int) != (q:Int))=false:=ai;have HL:=az hlen;clear hbad hbr hn hlen;go_in;go_wp2_with fail;refine(cu HC.o vJ.o _ _).mono ?_;rintro e w' ⟨rfl,rfl⟩;rw[HE.o];go_wp2_with fail;refine(full_any HC.o hS).mono ?_;rintro e w' ⟨rfl,rfl⟩;have WB:((l.length:Int) != ((M.S+32:Nat):Int))=false:=by have:=HL.o;simp;omega
      go_wp2_with fail;refine(fault_any HC.o).mono ?_;rintro e w2 ⟨rfl,hg2⟩;have HG:=az hg2;have yB:=az (fault_row hg2.at_.faults M.since);change Hid (dx aA w2 (faultM M.fs M.since).a (faultM M.fs M.since).l) at yB;have QR:=az (NP.uL (n:=M.S+32) yB.o.row.small);clear hg2 d1 d2 d3 c3 hqq;generalize faultM M.fs M.since=f at*;obtain⟨fat,fk,fa,fl,fc⟩:=f;dsimp only at*;have HA:Hid (Goes aA w' k M (w2.alloc (ach #[vi fat,vi fk,aco fa fl.length fc] 186)) (iw M)):=az (HG.o.old ax);have vK:Hid (dx aA (w2.alloc (ach #[vi fat,vi fk,aco fa fl.length fc] 186)) fa fl):=az (yB.o.old ax)
      have HR2:Hid (bE (w2.alloc (ach #[vi fat,vi fk,aco fa fl.length fc] 186)) a l):=az ((HR.o.aJ HA.o.aJ HC.o.mine).row);have F9:=aD.new w2 186 #[vi fat,vi fk,aco fa fl.length fc];go_upto_region 12 with fail;clear hlc WB;generalize w2.alloc (ach #[vi fat,vi fk,aco fa fl.length fc] 186)=w3 at*;have k1:w3.cell? ⟨w2.heap.size,1,none⟩=some (vi fk):=F9.cell 1;have k2:w3.cell? ⟨w2.heap.size,2,none⟩=some (aco fa fl.length fc):=F9.cell 2;clear F9 yB HG;generalize w2.heap.size=h2 at*;have c6:w3.cell? ⟨k,6,none⟩=some (acg M.down):=HA.o.at_.aW.cell 6;have z6:=HA.o.at_.aW.frozen 6
      have hnx:(M.bs.getD i default).next<(M.bs.getD i default).ps.length:=by rw[<-HN.o];omega
      have HI:=az hi;have iH:=az hnx;have WC:=az (show (M.bs.getD i default).ps.length<=32 by omega);clear hnx hps hi hPP hB hj0 hj1 hp0 hp1;by_cases h1:fk=1
      ·subst h1;have hQ:=HQ.o;rw[if_pos rfl]at hQ;have vz:=az hQ;clear hQ;go_wp2;go_ret;exact dD.mk vz.o (HA.o.trans (HA.o.at_.field (M':=MH (iw M) true) 6 (acg true) rfl rfl rfl rfl HA.o.at_.faults)) rfl
      by_cases h2':fk=2
      ·subst h2';have hQ:=HQ.o;rw[if_neg ag,if_pos rfl]at hQ;have vz:=az hQ;clear hQ h1;go_wp2_with fail;refine(Ib HA.o.at_ hS fa fl fc vK.o.row).mono ?_;rintro e w4 ⟨v4,rfl,zm,hb4⟩;obtain⟨pq,rfl,MI,hqk⟩:=Own.aB (aA:=aA) zm QR.o (by rw[NP.nA];omega);have GJ:=az (HA.o.old hb4);have HQL:=az MI;have HQK:=az hqk;clear zm MI hqk hb4 c6 z6;go_wp2_with fail;refine(sI GJ.o.at_ i HI.o iH.o WC.o pq HQK.o).mono ?_;rintro e w5 ⟨rfl,hg5⟩;have zo:=az (GJ.o.trans hg5);clear hg5;have c6:w5.cell? ⟨k,6,none⟩=some (acg M.down):=zo.o.at_.aW.cell 6
       have z6:=zo.o.at_.aW.frozen 6;go_wp2;go_ret;exact dD.mk vz.o (zo.o.trans (zo.o.at_.field (M':=MH (Oj (iw M) i pq) true) 6 (acg true) rfl rfl rfl rfl zo.o.at_.faults)) (by
        show NP.qg (Oj (iw M) i pq).view=_
        rw[xA (M:=iw M) HI.o,HQL.o]
        rfl)
      by_cases h3:fk=3
      ·subst h3;have hQ:=HQ.o;rw[if_neg ag,if_neg ag,if_pos rfl]at hQ;have vz:=az hQ;clear hQ h1 h2';go_wp2_with fail;refine(Ib HA.o.at_ hS fa fl fc vK.o.row).mono ?_;rintro e w4 ⟨v4,rfl,zm,hb4⟩;obtain⟨pq,rfl,MI,hqk⟩:=Own.aB (aA:=aA) zm QR.o (by rw[NP.nA];omega);have GJ:=az (HA.o.old hb4);have HQL:=az MI;have HQK:=az hqk;clear zm MI hqk hb4 c6 z6;go_wp2_with fail;refine(sI GJ.o.at_ i HI.o iH.o WC.o pq HQK.o).mono ?_;rintro e w5 ⟨rfl,hg5⟩;have zo:=az (GJ.o.trans hg5);clear hg5;go_wp2;go_ret;exact dD.mk vz.o zo.o (by
        rw[xA (M:=iw M) HI.o,HQL.o]
        rfl)
      have hQ:=HQ.o;rw[if_neg h1,if_neg h2',if_neg h3]at hQ;have vz:=az hQ;clear hQ;go_wp2_with fail;refine(jr a l c _ HR2.o (by have:=HL.o;omega)).mono ?_;rintro e w4 ⟨v4,rfl,zm,hb4⟩;obtain⟨pq,rfl,MI,hqk⟩:=Own.aB (aA:=aA) zm HR.o.row.small (by have:=HL.o;omega);have GJ:=az (HA.o.old hb4);have HQL:=az MI;have HQK:=az hqk;clear zm MI hqk hb4 c6 z6;go_wp2_with fail;refine(sI GJ.o.at_ i HI.o iH.o WC.o pq HQK.o).mono ?_;rintro e w5 ⟨rfl,hg5⟩;have zo:=az (GJ.o.trans hg5);clear hg5;go_wp2;go_ret;exact dD.mk vz.o zo.o (by
       rw[xA (M:=iw M) HI.o,HQL.o]
       rfl)
     rw[hbad,hbr]at HQ;rw[if_neg ai,if_pos (by simp only[Bool.false_or,decide_eq_true_eq];omega)]at HQ;rw[hbad]at d3;rw[hbr]at d2;generalize (M.bs.getD i default).next=nx at*;have hqq:((q:Int) != (nx:Int))=true:=by simp;omega
     clear hbad hbr hlen hn;go_in;go_wp2_with fail;refine(cu HC.o vJ.o _ _).mono ?_;rintro e w' ⟨rfl,rfl⟩;rw[HE.o];go_wp2_with fail;refine(full_any HC.o hS).mono ?_;rintro e w' ⟨rfl,rfl⟩;have WB:((l.length:Int) != ((M.S+32:Nat):Int))=false:=by simpa using hlc
     go_wp2;go_ret;exact dD.mk HQ.o (Goes.refl HC.o) rfl
    rw[hbad,hbr]at HQ;rw[if_neg ai,if_pos ai]at HQ;rw[hbad]at d3;rw[hbr]at d2;clear hbad hbr hlen;go_in;go_wp2_with fail;refine(cu HC.o vJ.o _ _).mono ?_;rintro e w' ⟨rfl,rfl⟩;rw[HE.o];go_wp2_with fail;refine(full_any HC.o hS).mono ?_;rintro e w' ⟨rfl,rfl⟩;have WB:((l.length:Int) != ((M.S+32:Nat):Int))=false:=by simpa using hlc
    go_wp2;go_ret;exact dD.mk HQ.o (Goes.refl HC.o) rfl
   rw[hbad]at HQ;rw[if_pos rfl]at HQ;rw[hbad]at d3;clear hbad hlen;go_in;go_wp2_with fail;refine(cu HC.o vJ.o _ _).mono ?_;rintro e w' ⟨rfl,rfl⟩;rw[HE.o];go_wp2_with fail;refine(full_any HC.o hS).mono ?_;rintro e w' ⟨rfl,rfl⟩;have WB:((l.length:Int) != ((M.S+32:Nat):Int))=false:=by simpa using hlc
   go_wp2;go_ret;exact dD.mk HQ.o (Goes.refl HC.o) rfl
  rw[if_neg hlen]at HQ;have hlc:((l.length:Int) != ((M.S+32:Nat):Int))=true:=by simp;omega
  go_in;go_wp2_with fail;refine(cu HC.o vJ.o _ _).mono ?_;rintro e w' ⟨rfl,rfl⟩;rw[HE.o];go_wp2_with fail;refine(full_any HC.o hS).mono ?_;rintro e w' ⟨rfl,rfl⟩;go_wp2;go_ret;exact dD.mk HQ.o (Goes.refl HC.o) rfl
 have HQ:Hid (NP.program M.view j p l=(NP.asked M.view j p,M.view)):=az (by unfold NP.program;dsimp only;rw[if_neg he]);clear hok h hB;go_in;go_wp2_with fail;refine(cu HC.o vJ.o _ _).mono ?_;rintro e w' ⟨rfl,rfl⟩;generalize NP.asked M.view j p=n at*;have hn:((n:Int) != 0)=true:=by simp[he]
 go_wp2;go_ret;exact dD.mk HQ.o (Goes.refl HC.o) rfl
def Ay (M:dA)(i:Nat):dA:={M with bs:=M.bs.set i {M.bs.getD i default with bad:=true}}
def Az (h:i<M.bs.length):(Ay M i).view=NP.Ac M.view i:=by
 unfold Ay NP.Ac NP.gI;rw[kM h];simp[dA.view,eG.view,ade]
def RQ (h:aT aA w k M)(hok:M.view.ok)(j:Int):ac4 prog 87 #[ptr k,vi j] w (dD aA w k M (NP.mark M.view j)):=by
 have hB:=pE hok;have HC:=az h;have vJ:=az hB;obtain⟨c0,c1,c2,c3,c4,c5,c6,c7,c8⟩:=h.cells;clear c0 c1 c2 c4 c5 c6 c7 c8;by_cases he:NP.asked M.view j 0=0
 ·obtain⟨hd,hj0,hj1,hp0,hp1⟩:=NP.fB he;change j<M.B at hj1;obtain⟨i,rfl⟩:∃i:Nat,j=i:=⟨j.toNat,aa⟩;have hi:i<M.bs.length:=aa;have HQ:Hid (NP.mark M.view i=(0,(Ay M i).view)):=az (by unfold NP.mark;dsimp only;rw[if_pos he,acW,Az hi]);have HE:=az he;have d3:w.cell? ⟨M.kb,i*5+3,none⟩=some (acg (M.bs.getD i default).bad):=h.iG hi (j:=3) ag;have z3:=h.blocks.frozen (i*5+3);have HG:=az (h.Ag hi (j:=3) ag (acg true) {M.bs.getD i default with bad:=true} rfl rfl rfl rfl);clear hd he hok h hp0 hp1;go_in;go_wp2_with fail;refine(cu HC.o vJ.o _ _).mono ?_
  rintro e w' ⟨rfl,rfl⟩;rw[HE.o];go_wp2;go_ret;exact dD.mk HQ.o HG.o rfl
 have HQ:Hid (NP.mark M.view j=(NP.asked M.view j 0,M.view)):=az (by unfold NP.mark;dsimp only;rw[if_neg he]);clear hok h hB;go_in;go_wp2_with fail;refine(cu HC.o vJ.o _ _).mono ?_;rintro e w' ⟨rfl,rfl⟩;generalize NP.asked M.view j 0=n at*;have hn:((n:Int) != 0)=true:=by simp[he]
 go_wp2;go_ret;exact dD.mk HQ.o (Goes.refl HC.o) rfl
section
variable{wr:acL}
def qD (M:dA)(i:Nat)(qs:List sD):dA:={M with bs:=M.bs.set i {M.bs.getD i default with ps:=qs,broken:=true,eF:=NP.qH ((M.bs.getD i default).eF+1)}}
def gV (hi:i<M.bs.length)(qs:List sD):(qD M i qs).bs.getD i default={M.bs.getD i default with ps:=qs,broken:=true,eF:=NP.qH ((M.bs.getD i default).eF+1)}:=by
 unfold qD;dsimp only;rw[NP.iO _ _ _ _ _ hi,if_pos rfl]
def kN (i:Nat)(qs:List sD):(qD M i qs).bs.length=M.bs.length:=abZ ..
variable{n:Nat}{qs:List sD}
def xB (hi:i<M.bs.length)(g:Goes aA w k M wr (qD M i qs))(q:sD)(hq:q.ok aA wr) :
  Goes aA w k M (wr.setCell ⟨(M.bs.getD i default).g,n,none⟩ q.v) (qD M i (qs.set n q)):=by
 have h:=g.at_.aB (i:=i) (p:=n) (by rw[kN];exact hi) q hq;rw[gV hi]at h;have e:({qD M i qs with bs:=(qD M i qs).bs.set i {M.bs.getD i default with ps:=qs.set n q,broken:=true,eF:=NP.qH ((M.bs.getD i default).eF+1)}}:dA)=qD M i (qs.set n q):=by
  unfold qD;dsimp only;rw[ac2]
 rw[e]at h;exact g.trans h
def Ol (hi:i<M.bs.length)(h:qs.map (·.l)=NP.cutTo (M.S+32) l ((M.bs.getD i default).ps.map (·.l)) (M.bs.getD i default).ps.length):(qD M i qs).view=NP.kK M.view i l:=by
 unfold qD NP.kK NP.gI;dsimp only;rw[kM hi];simp only[dA.view,eG.view,ade,h,List.length_map]
def Dh {α:Type}(l:List α)(n:Nat)(d:α):l.set n (l.getD n d)=l:=by
 apply List.ext_getElem?;intro j;rw[List.getElem?_set];split;rename_i h;subst h;split;rename_i h2;rw[aah,aaj h2];rfl;rename_i h2;rw[ac7 aa];rfl
variable{N:Nat}{data:List Nat}{ps:List (List Nat)}
def Ic (h:data.getD n 0=0):NP.cutTo N data ps (n+1)=NP.cutTo N data ps n:=by
 rw[NP.cutTo];rw[h,NP.Ae,if_pos rfl,Dh]
def RS (h:data.getD n 0=1):NP.cutTo N data ps (n+1)=(NP.cutTo N data ps n).set n []:=by
 rw[NP.cutTo];rw[h,NP.Ae,if_neg ag,if_neg ag]
def RU (h:1<data.getD n 0):NP.cutTo N data ps (n+1)=(NP.cutTo N data ps n).set n (aaA N (data.getD n 0)):=by
 rw[NP.cutTo];rw[NP.Ae,if_neg aa,if_pos h]
def dx.lookup {a:Option acM}(h:dx aA w a l)(hn:n<l.length):∃b o,a=some ⟨b,o,none⟩/\w.cell? ⟨b,o+n,none⟩=some (vb (l.getD n 0))/\l.getD n 0<256/\Safe 5 aA w b:=by
 obtain⟨b,o,rfl,h1,h2⟩:=h.row.lookup hn;refine⟨b,o,rfl,h1,h2,?_⟩;rcases h.safe with rfl|⟨b',o',he,hs⟩;simp at hn;injection he with he;injection he with hb ho;subst hb;exact hs
structure D5 (aA:Nat)(w:acL)(k:Nat)(M:dA)(i:Nat)(l:List Nat)(n:Nat)(qs:List sD)(wr:acL):Prop where
 goes:Goes aA w k M wr (qD M i qs)
 len:qs.length=(M.bs.getD i default).ps.length
 say:qs.map (·.l)=NP.cutTo (M.S+32) l ((M.bs.getD i default).ps.map (·.l)) n
def vL (h:aT aA w k M)(hok:M.view.ok)(i:Nat)(hi:i<M.bs.length)(a:Option acM)(l:List Nat)(c:Nat)(hr:dx aA w a l)(hl:l.length<=c)(hc:c<=maxLen) :
  ac4 prog 122 #[ptr k,adj (some ⟨M.kb,i*5,none⟩),aco a l.length c] w λe w'=>e=ab4 (adg #[])/\∃M',Goes aA w k M w' M'/\M'.view=NP.kK M.view i l:=by
 have hps:=MF hok hi;have hPP:=(EY hok).2.1;have hS:=(EY hok).1;have HC:=az h;have HR:=az hr;have hD:=bL (d:=default) hi;have d4:w.cell? ⟨M.kb,i*5+4,none⟩=some (vi (M.bs.getD i default).eF):=h.iG hi (j:=4) ag;have d2:w.cell? ⟨M.kb,i*5+2,none⟩=some (acg (M.bs.getD i default).broken):=h.iG hi (j:=2) ag;have z4:=h.blocks.frozen (i*5+4);have z2:=h.blocks.frozen (i*5+2);have G1:=h.Ag hi (j:=4) ag (vi (wrap64 ((M.bs.getD i default).eF+1))) {M.bs.getD i default with eF:=NP.qH ((M.bs.getD i default).eF+1)} (by rw[<-qY];rfl) rfl rfl rfl
 have hg1:(M.bs.set i {M.bs.getD i default with eF:=NP.qH ((M.bs.getD i default).eF+1)}).getD i default={M.bs.getD i default with eF:=NP.qH ((M.bs.getD i default).eF+1)}:=by
  rw[NP.iO _ _ _ _ _ hi,if_pos rfl]
 have G2:=G1.at_.Ag (i:=i) (j:=2) (by simpa using hi) ag (acg true) {M.bs.getD i default with broken:=true,eF:=NP.qH ((M.bs.getD i default).eF+1)} (by dsimp only;rw[hg1];rfl) (by dsimp only;rw[hg1]) (by dsimp only;rw[hg1]) (by dsimp only;rw[hg1]);have ST:Hid (D5 aA w k M i l 0 (M.bs.getD i default).ps ((w.setCell ⟨M.kb,i*5+4,none⟩ (vi (wrap64 ((M.bs.getD i default).eF+1)))).setCell ⟨M.kb,i*5+2,none⟩ (acg true))):=az ⟨by
  have:=G1.trans G2
  dsimp only at this
  rw[ac2]at this
  exact this,rfl,rfl⟩
 have HI:=az hi;have HD:=az hD;have WC:=az hps;have hlc:l.length<=9223372036854775807:=by unfold maxLen at hc;omega
 clear G1 G2 hg1 h hok hr hD;generalize hx:M.bs.getD i default=x at*;have HX:=az hx;clear hx;go_in;go_upto_region 2 with fail;generalize (w.setCell ⟨M.kb,i*5+4,none⟩ (vi (wrap64 (x.eF+1)))).setCell ⟨M.kb,i*5+2,none⟩ (acg true)=w2 at*;have c0:w2.cell? ⟨M.kb,i*5,none⟩=some (aco (some ⟨x.g,0,none⟩) x.ps.length x.c):=by
  have:=ST.o.goes.at_.iG (i:=i) (j:=0) (by rw[kN];exact hi) ag;rw[gV hi,HX.o]at this;exact this
 rw[hps]at c0;clear d4 d2 z4 z2;go_wp2_with fail;clear c0;go_loopw [22] (λv wr=>∃(n:Nat) (qs:List sD),n<=M.P/\v=vi n/\Hid (D5 aA w k M i l n qs wr)) (λv _=>M.P-(intOf v).toNat)
 case atStart=>exact⟨0,_,aaW _,rfl,ST⟩
 case round =>
  obtain⟨n,qs,hn,rfl,st⟩:=hrel;by_cases hlt:n<M.P
  ·have c0:wr.cell? ⟨M.kb,i*5,none⟩=some (aco (some ⟨x.g,0,none⟩) M.P x.c):=by
    have:=st.o.goes.at_.iG (i:=i) (j:=0) (by rw[kN];exact hi) ag;rw[gV hi,HX.o]at this;have h2:=st.o.len;rw[HX.o,WC.o]at h2;rw[<-h2];exact this
   have hmem:(qD M i qs).bs.getD i default∈(qD M i qs).bs:=bL (by rw[kN];exact hi);have cn:wr.cell? ⟨x.g,n,none⟩=some (qs.getD n default).v:=by
    have:=st.o.goes.at_.Hq (i:=i) (p:=n) (by rw[kN];exact hi) (by rw[gV hi];have:=st.o.len;rw[HX.o,WC.o]at this;dsimp only;omega);rw[gV hi,HX.o]at this;exact this
   have zn:wr.frozen? ⟨x.g,n,none⟩=false:=by
    have:=(st.o.goes.at_.pages _ hmem).frozen n;rw[gV hi,HX.o]at this;exact this
   by_cases hnl:n<l.length
   ·obtain⟨b,o,rfl,hby,hsm,hsf⟩:=(HR.o.aJ st.o.goes.aJ HC.o.mine).lookup hnl;have hne:¬x.g=b:=by
     rintro rfl;have hm:=st.o.goes.at_.mine x.g (acm (acm (by
      have:=ada (f:=λy:eG=>y.g) hmem
      rw[gV hi,HX.o]at this
      exact this)))
     exact hsf.no hm
    have hne':¬b=x.g:=λe=>hne e.symm
    clear hsf hmem;by_cases hy0:l.getD n 0=0
    ·have fV:Hid (D5 aA w k M i l (n+1) qs wr):=az ⟨st.o.goes,st.o.len,by rw[Ic hy0];exact st.o.say⟩;rw[hy0]at hby;clear hy0 hsm cn zn;go_wp2;go_roundw
     case rel=>exact⟨n+1,qs,aa,by go_num,fV⟩
     case measure=>simp[intOf];omega
    by_cases hy1:l.getD n 0=1
    ·have fV:Hid (D5 aA w k M i l (n+1) (qs.set n ⟨none,[],0⟩) (wr.setCell ⟨x.g,n,none⟩ (aco none 0 0))):=az ⟨by
      have:=xB (n:=n) hi st.o.goes ⟨none,[],0⟩ (sD.ok.none _ _)
      rw[HX.o]at this
      exact this,by rw[abZ];exact st.o.len,by rw[RS hy1,ade,st.o.say]⟩
     rw[hy1]at hby;clear hy1 hsm hy0;generalize qs.getD n default=pg at cn;go_wp2;go_roundw
     case rel=>exact⟨n+1,_,aa,by go_num,fV⟩
     case measure=>simp[intOf];omega
    have hy2:1<l.getD n 0:=aa;have G1:Goes aA w k M (wr.setCell ⟨x.g,n,none⟩ (aco none 0 0)) (qD M i (qs.set n ⟨none,[],0⟩)):=by
     have:=xB (n:=n) hi st.o.goes ⟨none,[],0⟩ (sD.ok.none _ _);rw[HX.o]at this;exact this
    have qI:=az G1;have wU:=az st.o.len;have ag5:=az st.o.say;clear hy0 hy1 hsm G1 st;generalize hyy:l.getD n 0=y at*;have HYY:=az hyy;clear hyy;generalize qs.getD n default=pg at cn;have hyb:((y:Int)==0)=false:=by simp;omega
    go_upto_region 8 with fail;clear c0 cn zn hby;generalize wr.setCell ⟨x.g,n,none⟩ (aco none 0 0)=w1 at*;have hmem:(qD M i (qs.set n ⟨none,[],0⟩)).bs.getD i default∈(qD M i (qs.set n ⟨none,[],0⟩)).bs:=bL (by rw[kN];exact hi);have MI:n<(qs.set n ⟨none,[],0⟩).length:=by have:=wU.o;rw[HX.o,WC.o]at this;rw[abZ];omega
    have c0:w1.cell? ⟨M.kb,i*5,none⟩=some (aco (some ⟨x.g,0,none⟩) M.P x.c):=by
     have:=qI.o.at_.iG (i:=i) (j:=0) (by rw[kN];exact hi) ag;rw[gV hi,HX.o]at this;have h2:=wU.o;rw[HX.o,WC.o]at h2;have h4:w1.cell? ⟨M.kb,i*5,none⟩=some (aco (some ⟨x.g,0,none⟩) (qs.set n ⟨none,[],0⟩).length x.c):=this;rw[abZ,h2]at h4;exact h4
    have cn:w1.cell? ⟨x.g,n,none⟩=some (aco none 0 0):=by
     have:=qI.o.at_.Hq (i:=i) (p:=n) (by rw[kN];exact hi) (by rw[gV hi];exact MI);rw[gV hi,HX.o]at this;dsimp only at this;rw[NP.iO _ _ _ _ _ (by rw[abZ]at MI;exact MI),if_pos rfl]at this;exact this
    have zn:w1.frozen? ⟨x.g,n,none⟩=false:=by
     have:=(qI.o.at_.pages _ hmem).frozen n;rw[gV hi,HX.o]at this;exact this
    have bK:Hid (bE w1.drew (some ⟨b,o+n,none⟩) [y]):=az (by
     have:=(((HR.o.aJ qI.o.aJ HC.o.mine).row.drew.drop n).take 1)
     rw[adb hnl,List.take_succ_cons,List.take_zero,show l[n]=l.getD n 0 by rw[aah,aaj hnl];rfl,HYY.o]at this
     exact this)
    have hby:y<256:=by have:=bK.o.small y ai;exact this
    have HFU:Hid (ac4 prog 132 #[ptr k] w1.drew λe w'=>e=ab4 (vi (M.S+32:Nat))/\w'=w1.drew):=az (full_any (M:=qD M i (qs.set n ⟨none,[],0⟩)) (qI.o.old au).at_ hS);have HRP:Hid (ac4 prog 148 #[aco (some ⟨b,o+n,none⟩) 1 (c-n),vi (M.S+32:Nat)] w1.drew λe w'=>∃q:sD,e=ab4 q.v/\q.l=aaA (M.S+32) y/\q.ok aA w'/\acN w1.heap.size w1 w'):=az ((Kb (some ⟨b,o+n,none⟩) y (M.S+32) (c-n) w1.drew bK.o aa aa).mono (by
     rintro e w' ⟨v',rfl,ho,hb⟩
     obtain⟨q,rfl,hq1,hq2⟩:=Own.aB (aA:=aA) ho (by intro z hz;rw[(aaE.1 hz).2];exact hby) ai
     exact⟨q,rfl,hq1,hq2,au.trans hb⟩))
    have q0:(0:Int)<=(n:Int):=aa;have q1:(n:Int)<=(n:Int)+1:=aa;have q2:(n:Int)+1<=(c:Int):=aa;have q3:((n:Int)+1).toNat=n+1:=aa;have q4:¬c=n:=aa;have q5:(0:Int)<=(n:Int)+1:=aa;have q6:adk.wrap ((n:Int)+1)=(n:Int)+1:=adl _ aa;have q7:(n:Int)<(M.P:Int):=aa;have c0d:w1.drew.cell? ⟨M.kb,i*5,none⟩=some (aco (some ⟨x.g,0,none⟩) M.P x.c):=c0;have C0:=az c0;have CN:=az cn;have ZN:=az zn;have ig:=az (lU cn);have Om:Hid ((⟨x.g,n,none⟩:acM)≠⟨M.kb,i*5,none⟩):=az (λe=>(HC.o.EN HD.o).2 (by injection e));clear hmem MI c0 cn zn;go_region_held3 (λw'=>w'.cell? ⟨M.kb,i*5,none⟩=some (aco (some ⟨x.g,0,none⟩) M.P x.c))
     (first
      |exact c0d
      |exact cell_below C0.o hb3
      |exact(ac6 _ _ _ _ Om.o).trans (cell_below C0.o hb3))
     (first
      |(go_at_call 132;refine(HFU.o).mono ?_;rintro e w' ⟨rfl,rfl⟩)
      |(go_at_call 148;refine(HRP.o).mono ?_;rintro e w3 ⟨pq,rfl,hq1,hq2,hb3⟩;have cn3:=cell_below CN.o hb3;have zn3:=(hb3.frozen ig.o).trans ZN.o;have vz:=az hq1;clear hq1))
    all_goals
     have fV:Hid (D5 aA w k M i l (n+1) (qs.set n pq) (w3.setCell ⟨x.g,n,none⟩ pq.v)):=az ⟨by
      have:=xB (n:=n) hi (qI.o.old hb3) pq hq2
      rw[HX.o,ac2]at this
      exact this,by rw[abZ];exact wU.o,by rw[RU (by rw[HYY.o];exact hy2),ade,ag5.o,vz.o,HYY.o]⟩
     go_wp2;go_roundw
     case rel=>exact⟨n+1,_,aa,by go_num,fV⟩
     case measure=>simp[intOf];omega
   have fV:Hid (D5 aA w k M i l (n+1) qs wr):=az ⟨st.o.goes,st.o.len,by rw[Ic (by rw[aah,ac7 aa];rfl)];exact st.o.say⟩;clear cn zn;go_wp2;go_roundw
   case rel=>exact⟨n+1,qs,aa,by go_num,fV⟩
   case measure=>simp[intOf];omega
  obtain rfl:n=M.P:=aa;go_wp2_with fail;go_end0;exact⟨rfl,_,st.o.goes,Ol HI.o (by rw[HX.o,WC.o,<-HX.o];exact st.o.say)⟩
end
section
variable{wr:acL}
def kY.RV {bs:List eG}{g n c:Nat}(h:kY w 140 5 g n c (bs.flatMap eG.cells)){j:Nat}(hi:i<bs.length)(hj:j<5)(v:acK)(y:eG)(hy:y.cells=(bs.getD i default).cells.set j v) :
  kY (w.setCell ⟨g,i*5+j,none⟩ v) 140 5 g n c ((bs.set i y).flatMap eG.cells):=by
 rw[<-flat_set eG.jq default bs i j y v hi hj hy];exact h.set _ v
def Oo (h:l.Nodup)(i G:Nat)(hG:∀x∈l,x≠G):(l.set i G).Nodup:=by
 have hp:=List.pairwise_iff_getElem.1 h;refine List.pairwise_iff_getElem.2 λa b ha hb hab=>?_
 have ha':a<l.length:=by simpa using ha
 have hb':b<l.length:=by simpa using hb
 rw[List.getElem_set,List.getElem_set];split;split;omega;exact λe=>hG _ (aff hb') e.symm
 split;exact hG _ (aff ha');exact hp a b ha' hb' hab
def aT.fresh (h:aT aA w k M)(hi:i<M.bs.length)(P:Nat)(hP:P<=32)(wr:Int) :
  Goes aA w k M ((((((w.setCell ⟨M.kb,i*5,none⟩ (aco (some ⟨w.heap.size,0,none⟩) P P)).setCell ⟨M.kb,i*5+1,none⟩ (vi 0)).setCell ⟨M.kb,i*5+2,none⟩ (acg false)).setCell ⟨M.kb,i*5+3,none⟩ (acg false)).setCell ⟨M.kb,i*5+4,none⟩ (vi wr)).alloc (ach (madeCells #[aco none 0 0] P) 23))
   {M with bs:=M.bs.set i ⟨w.heap.size,P,aaA P ⟨none,[],0⟩,0,false,false,wr⟩}:=by
 have hl:=λ(y:eG)=>show i<(M.bs.set i y).length by simpa using hi
 have hg:=λ(y:eG)=>show (M.bs.set i y).getD i default=y by rw[NP.iO _ _ _ _ _ hi,if_pos rfl]
 have a0:=h.blocks.RV hi (j:=0) ag (aco (some ⟨w.heap.size,0,none⟩) P P) {M.bs.getD i default with g:=w.heap.size,c:=P,ps:=aaA P ⟨none,[],0⟩} ai;have a1:=a0.RV (hl _) (j:=1) ag (vi 0) {M.bs.getD i default with g:=w.heap.size,c:=P,ps:=aaA P ⟨none,[],0⟩,next:=0} (by rw[hg];simp);rw[ac2]at a1;have a2:=a1.RV (hl _) (j:=2) ag (acg false) {M.bs.getD i default with g:=w.heap.size,c:=P,ps:=aaA P ⟨none,[],0⟩,next:=0,broken:=false} (by rw[hg];simp);rw[ac2]at a2;have a3:=a2.RV (hl _) (j:=3) ag (acg false) {M.bs.getD i default with g:=w.heap.size,c:=P,ps:=aaA P ⟨none,[],0⟩,next:=0,broken:=false,bad:=false} (by rw[hg];simp)
 rw[ac2]at a3;have a4:=a3.RV (hl _) (j:=4) ag (vi wr) ⟨w.heap.size,P,aaA P ⟨none,[],0⟩,0,false,false,wr⟩ (by rw[hg];simp);rw[ac2]at a4;have a5:=a4.old (ak.alloc aj (ach (madeCells #[aco none 0 0] P) 23));have hkl:M.kb<w.heap.size:=h.blocks.lt;have hq:aP (λn=>n=M.kb) w ((((((w.setCell ⟨M.kb,i*5,none⟩ (aco (some ⟨w.heap.size,0,none⟩) P P)).setCell ⟨M.kb,i*5+1,none⟩ (vi 0)).setCell ⟨M.kb,i*5+2,none⟩ (acg false)).setCell ⟨M.kb,i*5+3,none⟩ (acg false)).setCell ⟨M.kb,i*5+4,none⟩ (vi wr)).alloc (ach (madeCells #[aco none 0 0] P) 23)) :=
  ((((((aP.refl (λn=>n=M.kb) w).setCell (p:=⟨M.kb,i*5,none⟩) (ack rfl) _).setCell (p:=⟨M.kb,i*5+1,none⟩) (ack rfl) _).setCell (p:=⟨M.kb,i*5+2,none⟩) (ack rfl) _).setCell (p:=⟨M.kb,i*5+3,none⟩) (ack rfl) _).setCell (p:=⟨M.kb,i*5+4,none⟩) (ack rfl) _).alloc _
 have hF:∀n,n=M.kb->Mine aA w n:=λn e=>h.mine n (acm (ack e))
 have n0:kY ((((((w.setCell ⟨M.kb,i*5,none⟩ (aco (some ⟨w.heap.size,0,none⟩) P P)).setCell ⟨M.kb,i*5+1,none⟩ (vi 0)).setCell ⟨M.kb,i*5+2,none⟩ (acg false)).setCell ⟨M.kb,i*5+3,none⟩ (acg false)).setCell ⟨M.kb,i*5+4,none⟩ (vi wr)).alloc (ach (madeCells #[aco none 0 0] P) 23)) 23 1 w.heap.size P P ((aaA P (⟨none,[],0⟩:sD)).map (·.v)):=by
  have:=kY.lit (((((w.setCell ⟨M.kb,i*5,none⟩ (aco (some ⟨w.heap.size,0,none⟩) P P)).setCell ⟨M.kb,i*5+1,none⟩ (vi 0)).setCell ⟨M.kb,i*5+2,none⟩ (acg false)).setCell ⟨M.kb,i*5+3,none⟩ (acg false)).setCell ⟨M.kb,i*5+4,none⟩ (vi wr)) 23 1 P (madeCells #[aco none 0 0] P) (by unfold maxLen;omega) (by simp[madeCells]);rw[toList_madeCells_one]at this;simp only[size_set]at this;rw[List.map_replicate];exact this
 generalize ((((((w.setCell ⟨M.kb,i*5,none⟩ (aco (some ⟨w.heap.size,0,none⟩) P P)).setCell ⟨M.kb,i*5+1,none⟩ (vi 0)).setCell ⟨M.kb,i*5+2,none⟩ (acg false)).setCell ⟨M.kb,i*5+3,none⟩ (acg false)).setCell ⟨M.kb,i*5+4,none⟩ (vi wr)).alloc (ach (madeCells #[aco none 0 0] P) 23))=w' at*;clear a0 a1 a2 a3 a4;have V3:(M.bs.set i (⟨w.heap.size,P,aaA P ⟨none,[],0⟩,0,false,false,wr⟩:eG)).map (·.g)=(M.bs.map (·.g)).set i w.heap.size:=ade ..;have hbase:aA<=w.heap.size:=Nat.le_of_lt (Nat.lt_of_le_of_lt (h.low k (ack rfl)) h.aW.lt);have Y2:∀n,dA.foot {M with bs:=M.bs.set i ⟨w.heap.size,P,aaA P ⟨none,[],0⟩,0,false,false,wr⟩} k n->M.foot k n\/w.heap.size=n:=by
  intro n hn;rcases hn with rfl|rfl|hn;exact ack (ack rfl);exact ack (acm (ack rfl));dsimp only at hn;rw[V3]at hn;rcases List.mem_or_eq_of_mem_set hn with hn|rfl;exact ack (acm (acm hn));exact acm rfl
 refine⟨⟨?_,?_,?_,?_,?_,h.faults.aJ hq hF,?_⟩,hq.mono (λn _ e=>acm (ack e)),?_⟩;have:=h.aW.aJ hq h.Mw.symm;simpa[dA.cs] using this;dsimp only;rw[abZ];exact a5;intro x hx;rcases nM hx with rfl|⟨n,hne,hn,rfl⟩;dsimp only;rw[abP];exact n0;exact(h.pages _ (bL hn)).aJ hq (h.EN (bL hn)).2;dsimp only;rw[V3];refine Oo h.nodup i _ λx hx e=>?_
 obtain⟨y,hy,rfl⟩:=aay.1 hx;have:=(h.pages y hy).lt;omega;intro x hx p hp;rcases nM hx with rfl|⟨n,hne,hn,rfl⟩;rw[(aaE.1 hp).2];exact sD.ok.none _ _;exact(h.rows _ (bL hn) p hp).aJ hq hF;intro n hn;rcases Y2 n hn with h1|rfl;exact h.low n h1;exact hbase;intro n hn;rcases Y2 n hn with h1|rfl;exact ack h1;exact acm aj
def Ke:(prog.info? 23).map (λi=>(i.zero,i.size,i.bytes))=some (some (aco none 0 0),1,24):=ah
def AA (n:Nat)(hn:n<=1000000)(w:acL):(Instr.makeSlice 32 (.int .i64 (n:Int)) (.int .i64 (n:Int))).run prog w=.ok (.slice (some ⟨w.heap.size,0,none⟩) n n) (w.alloc (.cells (madeCells #[.slice none 0 0] n) 23)) :=
 run_make_row' 32 23 (.slice none 0 0) 24 underlying32 Ke rfl .i64 .i64 n aa aa w
def sJ (h:aT aA w k M)(hok:M.view.ok)(j:Int):ac4 prog 86 #[ptr k,vi j] w (dD aA w k M (NP.erase M.view j)):=by
 have hB:=pE hok;have HC:=az h;have vM:=az hok;have vJ:=az hB;obtain⟨c0,c1,c2,c3,c4,c5,c6,c7,c8⟩:=h.cells;clear c0 c1 c2 c4 c5 c6 c7 c8;by_cases he:NP.asked M.view j 0=0
 ·obtain⟨hd,hj0,hj1,hp0,hp1⟩:=NP.fB he;change j<M.B at hj1;obtain⟨i,rfl⟩:∃i:Nat,j=i:=⟨j.toNat,aa⟩;have hi:i<M.bs.length:=aa;have hPP:=(EY hok).2.1;have HQ:Hid (NP.erase M.view i=if (M.bs.getD i default).bad then (13,M.view)
    else if (faultM M.fs M.since).aL=1 then (4,NP.qg (NP.stroke M.view))
    else if (faultM M.fs M.since).aL=2 then (4,NP.qg (NP.kK (NP.stroke M.view) i (faultM M.fs M.since).l))
    else if (faultM M.fs M.since).aL=3 then (11,NP.kK (NP.stroke M.view) i (faultM M.fs M.since).l)
    else (0,NP.gI (NP.stroke M.view) i ⟨aaA M.P [],0,false,false,NP.qH ((M.bs.getD i default).eF+1)⟩)):=az (by
   unfold NP.erase
   dsimp only
   rw[if_pos he,acW,kM hi]
   have:NP.faultOf M.view.fs M.view.since=(faultM M.fs M.since).view:=(faultM_view M.fs M.since).symm
   rw[this]
   rfl)
  have HE:=az he;have d3:w.cell? ⟨M.kb,i*5+3,none⟩=some (acg (M.bs.getD i default).bad):=h.iG hi (j:=3) ag;clear hd he hok h hp0 hp1;cases hbad:(M.bs.getD i default).bad
  ·rw[hbad]at HQ;rw[if_neg ai]at HQ;rw[hbad]at d3;clear hbad;go_in;go_wp2_with fail;refine(cu HC.o vJ.o _ _).mono ?_;rintro e w' ⟨rfl,rfl⟩;rw[HE.o];go_wp2_with fail;refine(fault_any HC.o).mono ?_;rintro e w2 ⟨rfl,hg2⟩;have HG:=az hg2;have hdat:dx aA w2 (faultM M.fs M.since).a (faultM M.fs M.since).l/\(faultM M.fs M.since).l.length<=(faultM M.fs M.since).c/\(faultM M.fs M.since).c<=maxLen:=by
    rcases faultM_mem M.fs M.since with e|e;rw[e];exact⟨dx.nil _ _ _,aj,aaW _⟩;exact hg2.at_.faults.data _ e
   have yB:=az hdat.1;have D6:=az hdat.2;clear hg2 d3 c3 hdat;generalize faultM M.fs M.since=f at*;obtain⟨fat,fk,fa,fl,fc⟩:=f;dsimp only at*;have HA:Hid (Goes aA w' k M (w2.alloc (ach #[vi fat,vi fk,aco fa fl.length fc] 186)) (iw M)):=az (HG.o.old ax);have vK:Hid (dx aA (w2.alloc (ach #[vi fat,vi fk,aco fa fl.length fc] 186)) fa fl):=az (yB.o.old ax);have F9:=aD.new w2 186 #[vi fat,vi fk,aco fa fl.length fc];go_upto_region 8 with fail;generalize w2.alloc (ach #[vi fat,vi fk,aco fa fl.length fc] 186)=w3 at*
   have k1:w3.cell? ⟨w2.heap.size,1,none⟩=some (vi fk):=F9.cell 1;have k2:w3.cell? ⟨w2.heap.size,2,none⟩=some (aco fa fl.length fc):=F9.cell 2;clear F9 yB HG;generalize w2.heap.size=h2 at*;have c6:w3.cell? ⟨k,6,none⟩=some (acg M.down):=HA.o.at_.aW.cell 6;have z6:=HA.o.at_.aW.frozen 6;have HI:=az hi;have adm:Hid ((iw M).view.ok):=az (NP.ek vM.o);by_cases h1:fk=1
   ·subst h1;have hQ:=HQ.o;rw[if_pos rfl]at hQ;have vz:=az hQ;clear hQ;go_wp2;go_ret;exact dD.mk vz.o (HA.o.trans (HA.o.at_.field (M':=MH (iw M) true) 6 (acg true) rfl rfl rfl rfl HA.o.at_.faults)) rfl
   by_cases h2':fk=2
   ·subst h2';have hQ:=HQ.o;rw[if_neg ag,if_pos rfl]at hQ;have vz:=az hQ;clear hQ h1 c6 z6;go_wp2_with fail;refine(vL HA.o.at_ adm.o i HI.o fa fl fc vK.o D6.o.1 D6.o.2).mono ?_;rintro e w5 ⟨rfl,M5,hg5,hv5⟩;have zo:=az (HA.o.trans hg5);have HV5:=az hv5;clear hg5 hv5;have c6:w5.cell? ⟨k,6,none⟩=some (acg M5.down):=zo.o.at_.aW.cell 6;have z6:=zo.o.at_.aW.frozen 6;go_wp2;go_ret;exact dD.mk vz.o (zo.o.trans (zo.o.at_.field (M':=MH M5 true) 6 (acg true) rfl rfl rfl rfl zo.o.at_.faults)) (by
     show NP.qg M5.view=_
     rw[HV5.o]
     rfl)
   by_cases h3:fk=3
   ·subst h3;have hQ:=HQ.o;rw[if_neg ag,if_neg ag,if_pos rfl]at hQ;have vz:=az hQ;clear hQ h1 h2' c6 z6;go_wp2_with fail;refine(vL HA.o.at_ adm.o i HI.o fa fl fc vK.o D6.o.1 D6.o.2).mono ?_;rintro e w5 ⟨rfl,M5,hg5,hv5⟩;have zo:=az (HA.o.trans hg5);have HV5:=az hv5;clear hg5 hv5;go_wp2;go_ret;exact dD.mk vz.o zo.o HV5.o
   have hQ:=HQ.o;rw[if_neg h1,if_neg h2',if_neg h3]at hQ;have vz:=az hQ;clear hQ;go_upto_region 19 with fail;have hmk:=AA M.P aa;have c1:w3.cell? ⟨k,1,none⟩=some (vi M.P):=HA.o.at_.aW.cell 1;have d0:w3.cell? ⟨M.kb,i*5,none⟩=some (aco (some ⟨(M.bs.getD i default).g,0,none⟩) (M.bs.getD i default).ps.length (M.bs.getD i default).c):=HA.o.at_.iG (i:=i) (j:=0) hi ag;have d1:w3.cell? ⟨M.kb,i*5+1,none⟩=some (vi (M.bs.getD i default).next):=HA.o.at_.iG (i:=i) (j:=1) hi ag;have d2:w3.cell? ⟨M.kb,i*5+2,none⟩=some (acg (M.bs.getD i default).broken):=HA.o.at_.iG (i:=i) (j:=2) hi ag
   have d3:w3.cell? ⟨M.kb,i*5+3,none⟩=some (acg (M.bs.getD i default).bad):=HA.o.at_.iG (i:=i) (j:=3) hi ag;have d4:w3.cell? ⟨M.kb,i*5+4,none⟩=some (vi (M.bs.getD i default).eF):=HA.o.at_.iG (i:=i) (j:=4) hi ag;have z0:w3.frozen? ⟨M.kb,i*5,none⟩=false:=HA.o.at_.blocks.frozen _;have z1:w3.frozen? ⟨M.kb,i*5+1,none⟩=false:=HA.o.at_.blocks.frozen _;have z2:w3.frozen? ⟨M.kb,i*5+2,none⟩=false:=HA.o.at_.blocks.frozen _;have z3:w3.frozen? ⟨M.kb,i*5+3,none⟩=false:=HA.o.at_.blocks.frozen _;have z4:w3.frozen? ⟨M.kb,i*5+4,none⟩=false:=HA.o.at_.blocks.frozen _;have hkl:k<w3.heap.size:=HA.o.at_.aW.lt
   have hkb:M.kb<w3.heap.size:=HA.o.at_.blocks.lt;have aml:¬w3.heap.size=M.kb:=aa;have hkb2:¬M.kb=w3.heap.size:=aa;have HP:=az hPP;generalize M.bs.getD i default=x at*;go_region;go_wp2;go_ret;have hF:=(HA.o.at_.fresh (i:=i) HI.o M.P HP.o (wrap64 (x.eF+1)));refine dD.mk vz.o ((HA.o.trans hF).old au) ?_;unfold NP.gI iw;simp[dA.view,eG.view,ade,NP.stroke,qY]
  rw[hbad]at HQ;rw[if_pos rfl]at HQ;rw[hbad]at d3;clear hbad;go_in;go_wp2_with fail;refine(cu HC.o vJ.o _ _).mono ?_;rintro e w' ⟨rfl,rfl⟩;rw[HE.o];go_wp2;go_ret;exact dD.mk HQ.o (Goes.refl HC.o) rfl
 have HQ:Hid (NP.erase M.view j=(NP.asked M.view j 0,M.view)):=az (by unfold NP.erase;dsimp only;rw[if_neg he]);clear hok h hB;go_in;go_wp2_with fail;refine(cu HC.o vJ.o _ _).mono ?_;rintro e w' ⟨rfl,rfl⟩;generalize NP.asked M.view j 0=n at*;have hn:((n:Int) != 0)=true:=by simp[he]
 go_wp2;go_ret;exact dD.mk HQ.o (Goes.refl HC.o) rfl
end
def jC (w:acL)(a:Option acM)(l:List Int):Prop:=l=[]\/∃b o,a=some ⟨b,o,none⟩/\∀i,i<l.length->w.cell? ⟨b,o+i,none⟩=some (vi (l.getD i 0))
variable{a:Option acM}{l:List Int}
def jC.lookup (h:jC w a l)(hi:i<l.length):∃b o,a=some ⟨b,o,none⟩/\w.cell? ⟨b,o+i,none⟩=some (vi (l.getD i 0)):=by
 rcases h with rfl|⟨b,o,rfl,h⟩;simp at hi;exact⟨b,o,rfl,h i hi⟩
def jC.below (h:jC w a l)(q:acN w.heap.size w w'):jC w' a l:=by
 rcases h with h|⟨b,o,rfl,h⟩;exact ack h;exact acm ⟨b,o,rfl,λi hi=>cell_below (h i hi) q⟩
def idx (x:Int):List Int->Nat->Int
 |[],_=> -1
 |y::l,k=>if x=y then (k:Int) else idx x l (k+1)
def RX {x:Int}(h:k<l.length):idx x (l.drop k) k=if x=l.getD k 0 then (k:Int) else idx x (l.drop (k+1)) (k+1):=by
 rw[adb h,idx,aah,aaj h];rfl
def Oq (a:Option acM)(l:List Int)(c:Nat)(x:Int)(w:acL)(h:jC w a l)(hl:l.length<=1000000):ac4 prog 147 #[aco a l.length c,vi x] w λe w'=>e=ab4 (vi (idx x l 0))/\w'=w:=by
 have H:=az h;clear h;go_in;go_wp2_with fail;go_loop [8] (λi=>∃k:Nat,k<=l.length/\i=vi k/\Hid (idx x l 0=idx x (l.drop k) k)) (λi=>l.length-(intOf i).toNat)
 case atStart=>exact⟨0,aaW _,rfl,az (by rw[List.drop_zero])⟩
 case round =>
  obtain⟨k,hk,rfl,hd⟩:=hrel;by_cases hlt:k<l.length
  ·obtain⟨b,o,rfl,hc⟩:=H.o.lookup hlt;have hdr:=RX (x:=x) hlt;by_cases hx:x=l.getD k 0
   ·rw[if_pos hx]at hdr;have HF:=az (hd.o.trans hdr);rw[<-hx]at hc;clear hdr hx;go_wp2;go_ret;exact⟨bS HF.o.symm,rfl⟩
   rw[if_neg hx]at hdr;have HF:=az (hd.o.trans hdr);generalize l.getD k 0=y at*;have hxy:((x:Int)==y)=false:=by simp[hx]
   clear hdr;go_wp2_with fail;go_round
   case rel=>exact⟨k+1,aa,by go_num,HF⟩
   case measure=>simp[intOf];omega
  obtain rfl:k=l.length:=aa;have HF:Hid (idx x l 0= -1):=az (by rw[hd.o,ai4];rfl);go_wp2;go_ret;exact⟨bS HF.o.symm,rfl⟩
def E8 (a:Option acM)(l:List Int)(c:Nat)(x:Int)(w:acL)(h:jC w a l)(hl:l.length<=1000000):ac4 prog 118 #[aco a l.length c,vi x] w λe w'=>e=ab4 (acg (decide (0<=idx x l 0)))/\w'=w:=by
 have H:=az h;clear h;go_in;go_wp2_with fail;refine(Oq a l c x w H.o hl).mono ?_;rintro e w' ⟨rfl,rfl⟩;generalize hn:idx x l 0=n;have HN:=az hn;clear hn;go_wp2;go_ret;exact⟨aU (by rw[HN.o]),rfl⟩
def Ot (s:Int):decide (0<=idx s [64,128,256,512] 0)=(s==64||s==128||s==256||s==512):=by
 unfold idx idx idx idx idx;by_cases h1:s=64;simp[h1];by_cases h2:s=128;simp[h2];by_cases h3:s=256;simp[h3];by_cases h4:s=512;simp[h4];simp[h1,h2,h3,h4]
def xq (b p s:Int)(w:acL):ac4 prog 79 #[.agg #[vi b,vi p,vi s]] w λe w'=>e=ab4 (acg (NP.bH b p s))/\acN w.heap.size w w':=by
 have h1:aD ((w.alloc (ach #[vi b,vi p,vi s] 103)).alloc (ach #[vi 64,vi 128,vi 256,vi 512] 181)) w.heap.size 103 #[vi b,vi p,vi s]:=(aD.new _ _ _).alloc _;have h2:aD ((w.alloc (ach #[vi b,vi p,vi s] 103)).alloc (ach #[vi 64,vi 128,vi 256,vi 512] 181)) (w.heap.size+1) 181 #[vi 64,vi 128,vi 256,vi 512]:=by
  rw[<-size_alloc w (ach #[vi b,vi p,vi s] 103)];exact aD.new _ _ _
 have HB:Hid (acN w.heap.size w ((w.alloc (ach #[vi b,vi p,vi s] 103)).alloc (ach #[vi 64,vi 128,vi 256,vi 512] 181))):=az (ax.alloc ai _);go_in;go_wp2_with fail;generalize (w.alloc (ach #[vi b,vi p,vi s] 103)).alloc (ach #[vi 64,vi 128,vi 256,vi 512] 181)=w2 at*;have c0:w2.cell? ⟨w.heap.size,0,none⟩=some (vi b):=h1.cell 0;have c1:w2.cell? ⟨w.heap.size,1,none⟩=some (vi p):=h1.cell 1;have c2:w2.cell? ⟨w.heap.size,2,none⟩=some (vi s):=h1.cell 2;have hR:jC w2 (some ⟨w.heap.size+1,0,none⟩) [64,128,256,512]:=acm ⟨_,0,rfl,λi hi=>by
  rw[h2.cell]
  match i,hi with
  |0,_=>rfl
  |1,_=>rfl
  |2,_=>rfl
  |3,_=>rfl⟩
 have HC:Hid (∀n,ac4 prog 118 #[aco (some ⟨w.heap.size+1,0,none⟩) 4 4,vi s] (w2.drewN n) λe w'=>e=ab4 (acg (s==64||s==128||s==256||s==512))/\w'=w2.drewN n):=az λn=>by
  have:=E8 (some ⟨w.heap.size+1,0,none⟩) [64,128,256,512] 4 s (w2.drewN n) (hR.below (below_drewN ak n)) ag;rw[Ot]at this;exact this
 clear h1 h2 hR;by_cases hb1:8<=b
 ·by_cases hb2:b<=128
  ·by_cases hp1:4<=p
   ·by_cases hp2:p<=32
    ·have HQ:=az (show NP.bH b p s=(s==64||s==128||s==256||s==512) by simp[NP.bH,hb1,hb2,hp1,hp2]);generalize (s==64||s==128||s==256||s==512)=q at*;go_quiet ((go_at_call 118;exact ac4.quiet_of_same (HC.o _)));go_wp2;go_ret;exact⟨aU (by rw[HQ.o]),below_drewN HB.o _⟩
    have HQ:=az (show NP.bH b p s=false by simp[NP.bH,hp2]);have hd:decide (p<=32)=false:=by simp[hp2]
    go_quiet (fail);go_wp2;go_ret;exact⟨aU (by rw[HQ.o]),below_drewN HB.o _⟩
   have HQ:=az (show NP.bH b p s=false by simp[NP.bH,hp1]);have hd:decide (4<=p)=false:=by simp[hp1]
   go_quiet (fail);go_wp2;go_ret;exact⟨aU (by rw[HQ.o]),below_drewN HB.o _⟩
  have HQ:=az (show NP.bH b p s=false by simp[NP.bH,hb2]);have hd:decide (b<=128)=false:=by simp[hb2]
  go_quiet (fail);go_wp2;go_ret;exact⟨aU (by rw[HQ.o]),below_drewN HB.o _⟩
 have HQ:=az (show NP.bH b p s=false by simp[NP.bH,hb1]);have hd:decide (8<=b)=false:=by simp[hb1]
 go_quiet (fail);go_wp2;go_ret;exact⟨aU (by rw[HQ.o]),below_drewN HB.o _⟩
abbrev E9:Array acK:=#[aco none 0 0,vi 0,acg false,acg false,vi 0]
def RY:(prog.info? 140).map (λi=>(i.zero,i.size,i.bytes))=some (some (.agg E9),5,48):=ah
def Ou (n:Nat)(hn:n<=1000)(w:acL):(Instr.makeSlice 141 (.int .i64 (n:Int)) (.int .i64 (n:Int))).run prog w=.ok (.slice (some ⟨w.heap.size,0,none⟩) n n) (w.alloc (.cells (madeCells E9 (n*5)) 140)):=by
 obtain⟨i0,hi,hz0,hz1,hz2⟩:=info_parts RY;have:=run_make (P:=prog) w 141 140 i0 (.agg E9) underlying141 hi hz0 .i64 .i64 n n aa (Int.le_refl _) (by rw[hz2];omega) aa;simp only[acW,hz1]at this;exact this
def Ov (z:Array acK)(n:Nat)(hz:z.size=5):(madeCells z (n*5)).toList=(aaA n ()).flatMap λ_=>z.toList:=by
 apply List.ext_getElem?;intro j;by_cases hj:j<n*5;have h1:=flat_get (f:=λ_:Unit=>z.toList) (m:=5) (by intro x;simpa using hz) () (aaA n ()) (j/5) (j%5) (by simp;omega) aa;rw[show j/5*5+j%5=j by omega]at h1;rw[h1];simp[madeCells,hj,hz];rw[Array.getElem?_eq_getElem aa];simp[hz,show j%5<5 by omega];have h1:(madeCells z (n*5)).toList.length<=j:=by simp[madeCells];omega
 have h2:((aaA n ()).flatMap λ_=>z.toList).length<=j:=by rw[flat_length (m:=5) (by intro x;simpa using hz)];simp;omega
 rw[ac7 h1,ac7 h2]
abbrev Ie (n:Nat):List acK:=(aaA n ()).flatMap λ_=>E9.toList
def AB (n:Nat):Ie (n+1)=E9.toList++Ie n:=by unfold Ie;rw[List.replicate_succ,List.flatMap_cons]
structure nD (w:acL)(k kb B P S i:Nat)(bs:List eG)(wr:acL):Prop where
 aW:aD wr k 144 #[vi B,vi P,vi S,aco (some ⟨kb,0,none⟩) B B,aco none 0 0,vi 0,acg false,vi 0,vi 0]
 WE:aD wr w.heap.size 103 #[vi B,vi P,vi S]
 blocks:kY wr 140 5 kb B B (bs.flatMap eG.cells++Ie (B-i))
 len:bs.length=i
 form:∀x∈bs,x=⟨x.g,P,aaA P ⟨none,[],0⟩,0,false,false,0⟩
 pages:∀x∈bs,kY wr 23 1 x.g x.ps.length x.c (x.ps.map (·.v))
 nodup:(bs.map (·.g)).Nodup
 low:w.heap.size<=k/\w.heap.size<=kb/\∀x∈bs,w.heap.size<=x.g
 below:acN w.heap.size w wr
variable{B P S:Nat}
def nD.next {wr:acL}{kb:Nat}{bs:List eG}(h:nD w k kb B P S i bs wr)(hi:i<B)(hP:P<=32) :
  nD w k kb B P S (i+1) (bs++[⟨wr.heap.size,P,aaA P ⟨none,[],0⟩,0,false,false,0⟩]) ((wr.setCell ⟨kb,i*5,none⟩ (aco (some ⟨wr.heap.size,0,none⟩) P P)).alloc (ach (madeCells #[aco none 0 0] P) 23)):=by
 have hkb:k≠kb:=λe=>by subst e;exact(h.blocks.dM h.aW ag) rfl
 have Fe:w.heap.size≠kb:=(h.blocks.dM h.WE ag).symm;have hx:∀x∈bs,x.g≠kb:=λx hx=>(h.pages x hx).ne h.blocks ag
 have hb:(bs.flatMap eG.cells).length=i*5:=by rw[flat_length eG.jq,h.len]
 have n0:=kY.lit (wr.setCell ⟨kb,i*5,none⟩ (aco (some ⟨wr.heap.size,0,none⟩) P P)) 23 1 P (madeCells #[aco none 0 0] P) (by unfold maxLen;omega) (by simp[madeCells]);rw[toList_madeCells_one,size_set]at n0;refine⟨(h.aW.far (p:=⟨kb,i*5,none⟩) hkb _).alloc _,(h.WE.far (p:=⟨kb,i*5,none⟩) Fe _).alloc _,?_,by simp[h.len],?_,?_,?_,⟨h.low.1,h.low.2.1,?_⟩,(h.below.setCell h.low.2.1 _).alloc (by rw[size_set];exact h.below.size) _⟩;have h1:=(h.blocks.set (i*5) (aco (some ⟨wr.heap.size,0,none⟩) P P)).old (ak.alloc aj (ach (madeCells #[aco none 0 0] P) 23))
 rw[show B-i=(B-(i+1))+1 by omega,AB,List.set_append_right _ _ aa,hb,Nat.sub_self]at h1;rw[List.flatMap_append,List.append_assoc];have e:([(⟨wr.heap.size,P,aaA P ⟨none,[],0⟩,0,false,false,0⟩:eG)].flatMap eG.cells)=[aco (some ⟨wr.heap.size,0,none⟩) P P,vi 0,acg false,acg false,vi 0]:=by simp[eG.cells]
 rw[e];exact h1;intro x hxm;rcases aaS.1 hxm with hxm|hxm;exact h.form x hxm;rw[adf]at hxm;subst hxm;rfl;intro x hxm;rcases aaS.1 hxm with hxm|hxm;exact((h.pages x hxm).far (p:=⟨kb,i*5,none⟩) (hx x hxm) _).old ax;rw[adf]at hxm;subst hxm;dsimp only;rw[abP,List.map_replicate];exact n0;rw[List.map_append];refine List.nodup_append.2 ⟨h.nodup,ai,?_⟩;intro a ha b hb' e;simp only[List.map_cons,List.map_nil,adf]at hb';obtain⟨x,hxm,rfl⟩:=aay.1 ha;have:=(h.pages x hxm).lt
 omega;intro x hxm;rcases aaS.1 hxm with hxm|hxm;exact h.low.2.2 x hxm;rw[adf]at hxm;subst hxm;exact h.below.size
structure lq (aA:Nat)(w:acL)(k:Nat)(M:dA)(w':acL):Prop where
 at_:aT aA w' k M
 below:acN w.heap.size w w'
 own:∀n,M.foot k n->w.heap.size<=n
def nD.made {wr:acL}{kb:Nat}{bs:List eG}(h:nD w k kb B P S B bs wr)(hb:aA<=w.heap.size) :
  lq aA w k ⟨B,P,S,kb,B,bs,none,[],0,0,false,0,0⟩ wr/\(⟨B,P,S,kb,B,bs,none,[],0,0,false,0,0⟩:dA).view=NP.blank B P S:=by
 have hlow:∀n,(⟨B,P,S,kb,B,bs,none,[],0,0,false,0,0⟩:dA).foot k n->w.heap.size<=n:=by
  rintro n (rfl|rfl|hn);exact h.low.1;exact h.low.2.1;obtain⟨x,hx,rfl⟩:=aay.1 hn;exact h.low.2.2 x hx
 refine⟨⟨⟨?_,?_,h.pages,h.nodup,?_,uM.nil _ _ _,λn hn=>abX hb (hlow n hn)⟩,h.below,hlow⟩,?_⟩;have:=h.aW;simp only[dA.cs,h.len];exact this;have:=h.blocks;rw[Nat.sub_self]at this;dsimp only;rw[h.len];simpa[Ie] using this;intro x hx p hp;rw[h.form x hx]at hp;rw[(aaE.1 hp).2];exact sD.ok.none _ _;simp only[dA.view,NP.blank,List.map_nil,NP.bX.mk.injEq,true_and,and_true];refine List.eq_replicate_iff.2 ⟨by rw[List.length_map,h.len],λy hy=>?_⟩;obtain⟨x,hx,rfl⟩:=aay.1 hy;rw[h.form x hx];simp[eG.view,NP.Ri]
def Ow (aA B P S:Nat)(w:acL)(hB:B<=128)(hP:P<=32)(hb:aA<=w.heap.size):ac4 prog 80 #[.agg #[vi B,vi P,vi S]] w λe w'=>∃k M,e=ab4 (ptr k)/\lq aA w k M w'/\M.view=NP.blank B P S:=by
 have hmk:=Ou B aa;have hB':=az hB;have g0:aD (w.alloc (ach #[vi B,vi P,vi S] 103)) w.heap.size 103 #[vi B,vi P,vi S]:=aD.new _ _ _;have HB:Hid (acN w.heap.size w (w.alloc (ach #[vi B,vi P,vi S] 103))):=az ax;have hz1:Hid ((w.alloc (ach #[vi B,vi P,vi S] 103)).heap.size=w.heap.size+1):=az (size_alloc _ _);go_in;go_wp2_with fail;generalize w.alloc (ach #[vi B,vi P,vi S] 103)=w1 at*;have c0:w1.cell? ⟨w.heap.size,0,none⟩=some (vi B):=g0.cell 0;have c1:w1.cell? ⟨w.heap.size,1,none⟩=some (vi P):=g0.cell 1;have c2:w1.cell? ⟨w.heap.size,2,none⟩=some (vi S):=g0.cell 2
 have hlt:w.heap.size<w1.heap.size:=by have:=hz1.o;omega
 have hn1:¬w1.heap.size=w.heap.size:=aa;have hn2:¬w.heap.size=w1.heap.size:=aa;go_region;have ST:Hid (nD w (w1.heap.size+1) w1.heap.size B P S 0 [] (((w1.alloc (ach (madeCells E9 (B*5)) 140)).alloc (ach #[vi B,vi P,vi S,aco (some ⟨w1.heap.size,0,none⟩) B B,aco none 0 0,vi 0,acg false,vi 0,vi 0] 144)).drew)):=az (by
  refine⟨?_,((g0.alloc _).alloc _),?_,rfl,ai,ai,ai,⟨aa,aa,ai⟩,((HB.o.alloc (Nat.le_of_lt hlt) _).alloc (by rw[size_alloc];omega) _).drew⟩
  have:=aD.new (w1.alloc (ach (madeCells E9 (B*5)) 140)) 144 #[vi B,vi P,vi S,aco (some ⟨w1.heap.size,0,none⟩) B B,aco none 0 0,vi 0,acg false,vi 0,vi 0]
  rw[size_alloc]at this
  exact this.drew
  have:=(kY.lit w1 140 5 B (madeCells E9 (B*5)) (by unfold maxLen;omega) (by simp[madeCells])).old (ak.alloc aj (ach #[vi B,vi P,vi S,aco (some ⟨w1.heap.size,0,none⟩) B B,aco none 0 0,vi 0,acg false,vi 0,vi 0] 144)).drew
  rw[Ov _ _ rfl]at this
  rw[List.flatMap_nil,List.nil_append,Nat.sub_zero]
  exact this)
 clear hmk g0 c0 c1 c2 hn1 hn2 hz1 HB;generalize ((w1.alloc (ach (madeCells E9 (B*5)) 140)).alloc (ach #[vi B,vi P,vi S,aco (some ⟨w1.heap.size,0,none⟩) B B,aco none 0 0,vi 0,acg false,vi 0,vi 0] 144)).drew=w3 at*;generalize w1.heap.size+1=k at*;generalize w1.heap.size=kb at*;have c3:w3.cell? ⟨k,3,none⟩=some (aco (some ⟨kb,0,none⟩) B B):=ST.o.aW.cell 3;go_wp2_with fail;clear c3;go_loopw [16] (λv wr=>∃(i:Nat) (bs:List eG),i<=B/\v=vi i/\Hid (nD w k kb B P S i bs wr)) (λv _=>B-(intOf v).toNat)
 case atStart=>exact⟨0,[],aaW _,rfl,ST⟩
 case round =>
  obtain⟨i,bs,hi,rfl,st⟩:=hrel;by_cases hlt2:i<B
  ·have c3:wr.cell? ⟨k,3,none⟩=some (aco (some ⟨kb,0,none⟩) B B):=st.o.aW.cell 3;have c1:wr.cell? ⟨w.heap.size,1,none⟩=some (vi P):=st.o.WE.cell 1;have hb5:(bs.flatMap eG.cells).length=i*5:=by rw[flat_length eG.jq,st.o.len]
   have c0:wr.cell? ⟨kb,i*5,none⟩=some (aco none 0 0):=by
    rw[st.o.blocks.cell aa,List.getElem?_append_right aa,hb5,Nat.sub_self,show B-i=(B-(i+1))+1 by omega,AB];rfl
   have z0:=st.o.blocks.frozen (i*5);have hkl:kb<wr.heap.size:=st.o.blocks.lt;have amm:¬wr.heap.size=kb:=aa;have amn:¬kb=wr.heap.size:=aa;have hgl:w.heap.size<wr.heap.size:=st.o.WE.lt;have hcl:k<wr.heap.size:=st.o.aW.lt;have hmk:=AA P aa;have q0:(0:Int)<=(i:Int):=aa;have q1:(i:Int)<(B:Int):=aa;have ST2:=az (st.o.next hlt2 hP);clear hb5 hlt;go_upto_region 5 with fail;go_region;have ST3:Hid (nD w k kb B P S (i+1) _ _):=az ⟨ST2.o.aW.drew,ST2.o.WE.drew,ST2.o.blocks.old au,ST2.o.len,ST2.o.form,λx hx=>(ST2.o.pages x hx).old au,ST2.o.nodup,ST2.o.low,ST2.o.below.drew⟩
   go_wp2;go_roundw
   case rel=>exact⟨i+1,_,aa,by go_num,ST3⟩
   case measure=>simp[intOf];omega
  obtain rfl:i=B:=aa;have hM:=st.o.made hb;have HM:=az hM;clear hM;go_wp2;go_ret;exact⟨_,_,rfl,HM.o.1,HM.o.2⟩
def lq.goes {wr:acL}(h:lq aA w k M wr)(g:Goes aA wr k M w' M'):lq aA w k M' w' :=
 ⟨g.at_,h.below.trans (g.aJ.dX (λn _ hn=>h.own n hn) h.below.size),λn hn=>by
  rcases g.foot n hn with h1|h1
  exact h.own n h1
  exact abX h.below.size h1⟩
def lq.more {w0 wr:acL}(h:lq aA w k M wr)(q:acN w0.heap.size w0 w):lq aA w0 k M wr :=
 ⟨h.at_,q.trans (h.below.mono q.size),λn hn=>abX q.size (h.own n hn)⟩
def lV (aA:Nat)(w:acL)(r:Option NP.bX)(e:Ending)(w':acL):Prop :=
 match r with
 |some V=>∃k M,e=ab4 (adg #[ptr k,vi 0])/\lq aA w k M w'/\M.view=V
 |none=>e=ab4 (adg #[adj none,vi 1])/\acN w.heap.size w w'
variable{r:Option NP.bX}
def lV.no (h:r=none)(hb:acN w.heap.size w w'):lV aA w r (ab4 (adg #[adj none,vi 1])) w':=by
 rw[h];exact⟨rfl,hb⟩
def lV.yes (h:r=some M.view)(hm:lq aA w k M w'):lV aA w r (ab4 (adg #[ptr k,vi 0])) w':=by
 rw[h];exact⟨k,M,rfl,hm,rfl⟩
def WG (aA:Nat)(b p s:Int)(a:Option acM)(bad:List Int)(c:Nat)(w:acL)(hr:jC w a bad)(hl:bad.length<=9223372036854775807)(hb:aA<=w.heap.size) :
  ac4 prog 49 #[.agg #[vi b,vi p,vi s],aco a bad.length c] w (lV aA w (NP.new b p s bad)):=by
 have HR:=az hr;have g0:=az (aD.new w 103 #[vi b,vi p,vi s]);have HB:Hid (acN w.heap.size w (w.alloc (ach #[vi b,vi p,vi s] 103))):=az ax;clear hr;go_in;go_wp2_with fail;generalize w.alloc (ach #[vi b,vi p,vi s] 103)=w0 at*;have c0:w0.cell? ⟨w.heap.size,0,none⟩=some (vi b):=g0.o.cell 0;have c1:w0.cell? ⟨w.heap.size,1,none⟩=some (vi p):=g0.o.cell 1;have c2:w0.cell? ⟨w.heap.size,2,none⟩=some (vi s):=g0.o.cell 2;refine(xq b p s _).mono ?_;rintro e w1 ⟨rfl,hb1⟩;have g1:=az (g0.o.old hb1);have HB1:=az (HB.o.trans (hb1.mono HB.o.size))
 clear c0 c1 c2 hb1 g0 HB;cases hrt:NP.bH b p s
 ·have HQ:=az (show NP.new b p s bad=none by rw[NP.new,if_neg (by rw[hrt];simp)]);clear hrt;go_wp2;go_ret2;exact lV.no HQ.o HB1.o
 have HQ:=az (show NP.new b p s bad=NP.badTo (NP.blank b.toNat p.toNat s.toNat) bad by rw[NP.new,if_pos hrt]);have adn:=hrt;simp only[NP.bH,ac8,decide_eq_true_eq,Bool.or_eq_true,beq_iff_eq]at adn;obtain⟨B,rfl⟩:∃B:Nat,b=B:=⟨b.toNat,aa⟩;obtain⟨P,rfl⟩:∃P:Nat,p=P:=⟨p.toNat,aa⟩;obtain⟨S,rfl⟩:∃S:Nat,s=S:=⟨s.toNat,aa⟩;rw[acW,acW,acW]at HQ;have hBB:B<=128:=aa;have hPP:P<=32:=aa;clear hrt adn;have c0:w1.cell? ⟨w.heap.size,0,none⟩=some (vi B):=g1.o.cell 0;have c1:w1.cell? ⟨w.heap.size,1,none⟩=some (vi P):=g1.o.cell 1
 have c2:w1.cell? ⟨w.heap.size,2,none⟩=some (vi S):=g1.o.cell 2;go_wp2_with fail;refine(Ow aA B P S _ hBB hPP (abX hb HB1.o.size)).mono ?_;rintro e w2 ⟨k,M,rfl,hm,hv⟩;have HM:=az hm;have Ig:Hid (M.bs.length=B/\M.B=B):=az (by
  have h1:M.view.bs.length=B:=by rw[hv];exact abP ..
  have h2:M.view.B=B:=by rw[hv];rfl
  exact⟨by simpa[dA.view] using h1,h2⟩)
 have HQ2:Hid (NP.new B P S bad=NP.badTo M.view (bad.drop 0)):=az (by rw[HQ.o,hv,List.drop_zero]);clear c0 c1 c2 hm hv HQ;go_wp2_with fail;go_loopw [16] (λv wr=>∃(i:Nat) (M:dA),i<=bad.length/\v=vi i/\Hid (lq aA w1 k M wr)/\Hid (M.bs.length=B/\M.B=B)/\Hid (NP.new B P S bad=NP.badTo M.view (bad.drop i))) (λv _=>bad.length-(intOf v).toNat)
 case atStart=>exact⟨0,M,aaW _,rfl,HM,Ig,HQ2⟩
 case round =>
  clear HM Ig HQ2 M;obtain⟨i,M,hi,rfl,HM,Ig,HQ⟩:=hrel;by_cases hlt:i<bad.length
  ·obtain⟨ba,o,rfl,hx⟩:=(HR.o.below (HB1.o.trans (HM.o.below.mono HB1.o.size))).lookup hlt;have hdr:bad.drop i=bad.getD i 0::bad.drop (i+1):=by
    rw[adb hlt,aah,aaj hlt];rfl
   have HDR:=az hdr;clear hdr;generalize bad.getD i 0=x at*;have c0:wr.cell? ⟨w.heap.size,0,none⟩=some (vi B):=(g1.o.below HM.o.below g1.o.lt).cell 0;by_cases hx0:0<=x
   ·by_cases hx1:x<B
    ·obtain⟨j,rfl⟩:∃j:Nat,x=j:=⟨x.toNat,aa⟩;have hj:j<M.bs.length:=by rw[Ig.o.1];omega
     have c3:wr.cell? ⟨k,3,none⟩=some (aco (some ⟨M.kb,0,none⟩) M.bs.length M.kc):=HM.o.at_.aW.cell 3;have d3:wr.cell? ⟨M.kb,j*5+3,none⟩=some (acg (M.bs.getD j default).bad):=HM.o.at_.iG hj (j:=3) ag;have z3:=HM.o.at_.blocks.frozen (j*5+3);have yC:Hid (lq aA w1 k (Ay M j) (wr.setCell ⟨M.kb,j*5+3,none⟩ (acg true))):=az (HM.o.goes (HM.o.at_.Ag hj (j:=3) ag (acg true) {M.bs.getD j default with bad:=true} rfl rfl rfl rfl));have HL2:Hid ((Ay M j).bs.length=B/\(Ay M j).B=B):=az ⟨by show (M.bs.set _ _).length=_;rw[abZ];exact Ig.o.1,Ig.o.2⟩
     have HQ2:Hid (NP.new B P S bad=NP.badTo (Ay M j).view (bad.drop (i+1))):=az (by
      rw[HQ.o,HDR.o,NP.badTo,if_pos ⟨aa,by show (j:Int)<(M.B:Int);rw[Ig.o.2];omega⟩,acW,Az hj])
     generalize (M.bs.getD j default).bad=bd at*;go_wp2;go_roundw
     case rel=>exact⟨i+1,_,aa,by go_num,yC,HL2,HQ2⟩
     case measure=>simp[intOf];omega
    have HF:Hid (NP.new B P S bad=none):=az (by rw[HQ.o,HDR.o,NP.badTo,if_neg (by show ¬(0<=x/\x<(M.B:Int));rw[Ig.o.2];omega)]);go_wp2;go_ret2;exact lV.no HF.o (HB1.o.trans (HM.o.below.mono HB1.o.size))
   have HF:Hid (NP.new B P S bad=none):=az (by rw[HQ.o,HDR.o,NP.badTo,if_neg aa]);go_wp2;go_ret2;exact lV.no HF.o (HB1.o.trans (HM.o.below.mono HB1.o.size))
  obtain rfl:i=bad.length:=aa;have HF:Hid (NP.new B P S bad=some M.view):=az (by rw[HQ.o,ai4];rfl);go_wp2;go_ret2;exact lV.yes HF.o (HM.o.more HB1.o)
def Ox (M:dA)(j:Int)(hB:M.bs.length=M.B):vI M j=NP.bC M.view j:=by
 have hB':(M.view.B:Int)=M.bs.length:=by rw[hB];rfl
 unfold vI NP.bC;rw[hB'];by_cases h:0<=j/\j<M.bs.length;rw[if_pos h,if_pos h,kM aa];rfl;rw[if_neg h,if_neg h]
namespace mgr
open RowKit
variable{w':acL}{m:Nat}{G:iL}
def xC {g:Mg}{k:Int}(h:g.there k=true):∃i:Nat,k=i/\i<g.l.length/\(g.blk i).s≠4:=by
 unfold Mg.there at h;simp only[ac8,decide_eq_true_eq,bne_iff_ne,ne_eq]at h;exact⟨k.toNat,aa,aa,h.2⟩
def ow (aA:Nat)(w:acL)(m:Nat)(G:iL)(M:dA)(r:Int×NP.bX×Mg)(e:Ending)(w':acL):Prop :=
 ∃M',e=ab4 (vi r.1)/\bJ aA w m G M w' r.2.2 M'/\M'.view=r.2.1
def ow.mk {r:Int×NP.bX×Mg}{n:Int}{V:NP.bX}{g':Mg}(hr:r=(n,V,g'))(hg:bJ aA w m G M w' g' M')(hv:M'.view=V):ow aA w m G M r (ab4 (vi n)) w' :=
 ⟨M',by rw[hr],by rw[hr];exact hg,by rw[hr];exact hv⟩
def rq (h:Held aA w m G M)(hok:G.view.ok M.view)(ag7:M.P<=32)(k:Int):ac4 prog 109 #[ptr m,vi k] w λe w'=>e=ab4 (vi (G.view.drop k).1)/\bJ aA w m G M w' (G.view.drop k).2 M:=by
 have HT:=az (dP h k);cases ht:G.view.there k
 ·have HQ:Hid (G.view.drop k=(1,G.view)):=az (by unfold Mg.drop;rw[if_pos (ack ht)]);have H:=az h;rw[ht]at HT;clear ht h hok;go_in;go_wp2_with fail;refine HT.o.mono ?_;rintro e w' ⟨rfl,rfl⟩;go_wp2;go_ret;exact⟨bS (by rw[HQ.o]),by rw[HQ.o];exact bJ.refl H.o⟩
 obtain⟨i,rfl,hi,hs4⟩:=xC ht;obtain⟨c0,c1,c2,c3,c4,c5⟩:=h.cells;obtain⟨d0,d1,d2,d3⟩:=h.j3 hi;have hi0:(0:Int)<=(i:Int):=aa;have hi1:(i:Int)<(G.l.length:Int):=by
  have:i<G.l.length:=hi;omega
 have hr:=hok.QO _ (dG hi);have hP:M.view.P=M.P:=rfl;have dN:Hid (G.view.drop i=if G.view.there i=false\/(G.l.getD i default).l=0 then (1,G.view) else (0,G.view.put i {G.l.getD i default with l:=(G.l.getD i default).l-1,s:=if (G.l.getD i default).s=2/\(G.l.getD i default).l-1=0 then 3 else (G.l.getD i default).s})):=az (by
  unfold Mg.drop;simp only[acW])
 rw[ht]at HT dN;have H:=az h;by_cases hl:(G.l.getD i default).l=0
 ·have HQ:Hid (G.view.drop i=(1,G.view)):=az (by rw[dN.o,if_pos (acm hl)]);rw[hl]at d1;clear ht h hok hr hl d0 d2 d3 hs4 c0 c2 c3 c4 c5 hi dN;go_in;go_wp2_with fail;refine HT.o.mono ?_;rintro e w' ⟨rfl,rfl⟩;go_wp2;go_ret;exact⟨bS (by rw[HQ.o]),by rw[HQ.o];exact bJ.refl H.o⟩
 have HQ:Hid (G.view.drop i=(0,G.view.put i {G.l.getD i default with l:=(G.l.getD i default).l-1,s:=if (G.l.getD i default).s=2/\(G.l.getD i default).l-1=0 then 3 else (G.l.getD i default).s})):=az (by
  rw[dN.o,if_neg (by simpa using hl)])
 have hb:=ag7;have hlb:0<=(G.l.getD i default).l/\(G.l.getD i default).l<=32:=⟨hr.2.2.1,by have h1:(G.l.getD i default).l<=M.view.P:=hr.2.2.2.1;omega⟩;have h1:=h.cell hi (j:=1) ag (vi ((G.l.getD i default).l-1)) {G.l.getD i default with l:=(G.l.getD i default).l-1} rfl;have h2:=h1.trans (h1.at_.cell (i:=i) (j:=0) (by simpa[Mg.put] using hi) ag (vi 3) {G.l.getD i default with l:=(G.l.getD i default).l-1,s:=3} (by dsimp only[iL.lay,Mg.put,iL.view];rw[il _ _ _ _ hi,if_pos rfl];rfl));simp only[Mg.put,ac2,Nat.add_zero]at h1 h2;have H1:=az h1;have H2:=az h2
 have z0:=h.mgr.row.frozen (i*4);have z1:=h.mgr.row.frozen (i*4+1);clear h1 h2 dN ht h hok hr hs4 c0 c2 c3 c4 c5 hi d2 d3 hb;generalize hxl:(G.l.getD i default).l=xl at*;generalize hxs:(G.l.getD i default).s=xs at*;have q1:adk.wrap (xl-1)=xl-1:=adl _ aa;have hl':(xl==0)=false:=beq_eq_false_iff_ne.2 hl;have hne:¬m=G.gl:=H.o.ne;clear hxl hxs;by_cases h2s:xs=2
 ·have hs':(xs==2)=true:=beq_iff_eq.2 h2s;by_cases h1l:xl-1=0
  ·have ag8:(xl-1==0)=true:=beq_iff_eq.2 h1l;rw[if_pos ⟨h2s,h1l⟩]at HQ;clear h2s h1l hl;go_in;go_wp2_with fail;refine HT.o.mono ?_;rintro e w' ⟨rfl,rfl⟩;go_wp2;go_ret;exact⟨bS (by rw[HQ.o]),by rw[HQ.o];exact H2.o⟩
  have ag8:(xl-1==0)=false:=beq_eq_false_iff_ne.2 h1l;rw[if_neg (by simp[h1l])]at HQ;clear h2s h1l hl;go_in;go_wp2_with fail;refine HT.o.mono ?_;rintro e w' ⟨rfl,rfl⟩;go_wp2;go_ret;exact⟨bS (by rw[HQ.o]),by rw[HQ.o];exact H1.o⟩
 have hs':(xs==2)=false:=beq_eq_false_iff_ne.2 h2s;rw[if_neg (by simp[h2s])]at HQ;clear h2s hl;go_in;go_wp2_with fail;refine HT.o.mono ?_;rintro e w' ⟨rfl,rfl⟩;go_wp2;go_ret;exact⟨bS (by rw[HQ.o]),by rw[HQ.o];exact H1.o⟩
def RZ (h:Held aA w m G M)(k:Int):ac4 prog 233 #[ptr m,vi k] w λe w'=>e=ab4 (vi (G.view.idle M.view k))/\w'=w:=by
 have HT:=az (dP h k);have HR:=az (ou h);have dN:Hid (G.view.idle M.view k=if M.down then 4 else if G.view.there k=false\/0<(G.l.getD k.toNat default).l then 1 else 0):=az rfl;cases hd:M.down
 ·rw[hd]at HR dN;rw[if_neg ag]at dN HR;cases ht:G.view.there k
  ·rw[ht]at HT;rw[if_pos (ack ht)]at dN;clear h ht hd;go_in;go_wp2_with fail;refine HR.o.mono ?_;rintro e w' ⟨rfl,rfl⟩;go_wp2_with fail;refine HT.o.mono ?_;rintro e w' ⟨rfl,rfl⟩;go_wp2;go_ret;exact⟨bS dN.o.symm,rfl⟩
  obtain⟨i,rfl,hi,hs4⟩:=xC ht;obtain⟨c0,c1,c2,c3,c4,c5⟩:=h.cells;obtain⟨d0,d1,d2,d3⟩:=h.j3 hi;have hi0:(0:Int)<=(i:Int):=aa;have hi1:(i:Int)<(G.l.length:Int):=by
   have:i<G.l.length:=hi;omega
  rw[ht]at HT dN;rw[acW]at dN;clear h ht hd c0 c2 c3 c4 c5 hs4 hi d0 d2 d3;generalize (G.l.getD i default).l=xl at*;by_cases hl:0<xl
  ·rw[if_pos (acm hl)]at dN;go_in;go_wp2_with fail;refine HR.o.mono ?_;rintro e w' ⟨rfl,rfl⟩;go_wp2_with fail;refine HT.o.mono ?_;rintro e w' ⟨rfl,rfl⟩;go_wp2;go_ret;exact⟨bS dN.o.symm,rfl⟩
  rw[if_neg (by simp[hl])]at dN;go_in;go_wp2_with fail;refine HR.o.mono ?_;rintro e w' ⟨rfl,rfl⟩;go_wp2_with fail;refine HT.o.mono ?_;rintro e w' ⟨rfl,rfl⟩;go_wp2;go_ret;exact⟨bS dN.o.symm,rfl⟩
 rw[hd]at HR dN;rw[if_pos rfl]at dN HR;clear h hd HT;go_in;go_wp2_with fail;refine HR.o.mono ?_;rintro e w' ⟨rfl,rfl⟩;go_wp2;go_ret;exact⟨bS dN.o.symm,rfl⟩
def Ff {gl o:Nat}{v0 v1 v2 v3:acK}{p:acM}(hp:gl≠p.block):((((w.setCell ⟨gl,o,none⟩ v0).setCell ⟨gl,o+1,none⟩ v1).setCell ⟨gl,o+2,none⟩ v2).setCell ⟨gl,o+3,none⟩ v3).cell? p=w.cell? p:=by
 have:∀o',(⟨gl,o',none⟩:acM)≠p:=λo' e=>hp (by rw[<-e]);rw[ac6 _ _ _ _ (this _),ac6 _ _ _ _ (this _),ac6 _ _ _ _ (this _),ac6 _ _ _ _ (this _)]
def uN (M:dA)(hok:M.view.ok)(j:Int):vI M j=NP.bC M.view j:=Ox M j (pE hok)
def R3 (h:Held aA w m G M)(hok:M.view.ok)(i:Nat)(hi:i<G.l.length):ac4 prog 234 #[ptr m,vi i] w (ow aA w m G M (G.view.gone M.view i)):=by
 obtain⟨c0,c1,c2,c3,c4,c5⟩:=h.cells;have HM:=az (RQ h.aW hok i);have dN:Hid (G.view.gone M.view i=if (NP.mark M.view i).1=0 then (0,(NP.mark M.view i).2,(G.view.put i ⟨4,0,NP.bC (NP.mark M.view i).2 i,0⟩).shut i) else ((NP.mark M.view i).1,(NP.mark M.view i).2,G.view)):=az rfl;have hact:=(NP.qP hok (faults_small h.aW.faults) (.mark i) trivial).1;change (NP.mark M.view i).2.ok at hact;have hPB:(NP.mark M.view i).2.P=M.view.P/\(NP.mark M.view i).2.B=M.view.B:=by
  unfold NP.mark;dsimp only;split;exact⟨rfl,rfl⟩;exact⟨rfl,rfl⟩
 have H:=az h;have hi0:(0:Int)<=(i:Int):=aa;have hi1:(i:Int)<(G.l.length:Int):=aa;have HI:=az hi;clear c1 c2 c3 c4 c5 h hok;generalize hr1:(NP.mark M.view i).1=r1 at*;generalize hr2:(NP.mark M.view i).2=V2 at*;have WH:=az hact;have yC:Hid (ac4 prog 87 #[ptr G.k,vi i] w λe w'=>∃M',e=ab4 (vi r1)/\Goes aA w G.k M w' M'/\M'.view=V2):=az (HM.o.mono (by
  rintro e w' ⟨M',he,hg,hv⟩
  exact⟨M',by rw[he,hr1],hg,by rw[hv,hr2]⟩))
 clear hr1 hr2 hact HM hPB;by_cases hz:r1=0
 ·rw[if_pos hz]at dN;have hzq:(r1 != 0)=false:=by simp[hz]
  go_in;go_wp2_with fail;refine yC.o.mono ?_;rintro e w1 ⟨M',rfl,hg,hv⟩;have qI:=az (H.o.jG hg);have HV:=az hv;have hws:vI M' i=NP.bC V2 i:=by rw[uN M' (by rw[hv];exact WH.o),hv]
  generalize NP.bC V2 i=wr at*;have HW:=az (λw' (hc:aT aA w' G.k M')=>Aw hc i);rw[hws]at HW;have k0:w1.cell? ⟨m,0,none⟩=some (ptr G.k):=qI.o.at_.cells.1;have k1:w1.cell? ⟨m,1,none⟩=some (aco (some ⟨G.gl,0,none⟩) G.l.length G.cl):=qI.o.at_.cells.2.1;have k2:w1.cell? ⟨m,2,none⟩=some (vi G.at_):=qI.o.at_.cells.2.2.1;have z2:=qI.o.at_.mgr.mgr.frozen 2;have z:=λj=>qI.o.at_.mgr.row.frozen j
  obtain⟨d0,d1,d2,d3⟩:=qI.o.at_.j3 HI.o;clear hg hv hws c0;have zz0:=z (i*4);have zz1:=z (i*4+1);have zz2:=z (i*4+2);have zz3:=z (i*4+3);have hne:Hid (G.gl≠m):=az (λe=>H.o.ne e.symm);have hne1:¬G.gl=m:=hne.o;have HS:Hid (w1.drew.cell? ⟨m,0,none⟩=some (ptr G.k)/\w1.drew.cell? ⟨m,1,none⟩=some (aco (some ⟨G.gl,0,none⟩) G.l.length G.cl)):=az ⟨k0,k1⟩;have V4:=az (HW.o _ (qI.o.at_.aW.old au));have uO:=az ((qI.o.old au).trans ((qI.o.old au).at_.block (i:=i) HI.o ⟨4,0,wr,0⟩));clear z HW;go_upto_region 4 with fail;go_region_held3 (λw'=>w'.cell? ⟨m,0,none⟩=some (ptr G.k)/\w'.cell? ⟨m,1,none⟩=some (aco (some ⟨G.gl,0,none⟩) G.l.length G.cl))
   (first
    |exact HS.o
    |exact⟨(Ff hne.o).trans HS.o.1,(Ff hne.o).trans HS.o.2⟩)
   (first|(go_at_call 123;refine V4.o.mono ?_;rintro e w' ⟨rfl,rfl⟩))
  change Hid (bJ aA w m G M ((((w1.setCell ⟨G.gl,i*4,none⟩ (vi 4)).setCell ⟨G.gl,i*4+1,none⟩ (vi 0)).setCell ⟨G.gl,i*4+2,none⟩ (vi wr)).setCell ⟨G.gl,i*4+3,none⟩ (vi 0)).drew (G.view.put i ⟨4,0,wr,0⟩) M') at uO;change Exit.then _ _ _ _ ((((w1.setCell ⟨G.gl,i*4,none⟩ (vi 4)).setCell ⟨G.gl,i*4+1,none⟩ (vi 0)).setCell ⟨G.gl,i*4+2,none⟩ (vi wr)).setCell ⟨G.gl,i*4+3,none⟩ (vi 0)).drew;clear k0 k1 k2 z2 d0 d1 d2 d3 zz0 zz1 zz2 zz3 HS V4 qI;generalize ((((w1.setCell ⟨G.gl,i*4,none⟩ (vi 4)).setCell ⟨G.gl,i*4+1,none⟩ (vi 0)).setCell ⟨G.gl,i*4+2,none⟩ (vi wr)).setCell ⟨G.gl,i*4+3,none⟩ (vi 0)).drew=w2 at*
  have k2:w2.cell? ⟨m,2,none⟩=some (vi G.at_):=uO.o.at_.cells.2.2.1;have z2:=uO.o.at_.mgr.mgr.frozen 2;by_cases ha:(i:Int)=G.at_
  ·have hq:((i:Int)==G.at_)=true:=beq_iff_eq.2 ha;have HE:=az (uO.o.shut (i:=i) ha);clear ha;go_wp2;go_ret;exact ow.mk dN.o HE.o HV.o
  have hq:((i:Int)==G.at_)=false:=beq_eq_false_iff_ne.2 ha;have HE:=az (uO.o.EU (i:=i) ha);clear ha;go_wp2;go_ret;exact ow.mk dN.o HE.o HV.o
 rw[if_neg hz]at dN;have hzq:(r1 != 0)=true:=by simp[hz]
 go_in;go_wp2_with fail;refine yC.o.mono ?_;rintro e w1 ⟨M',rfl,hg,hv⟩;have qI:=az (H.o.jG hg);have HV:=az hv;clear hg hv;go_wp2;go_ret;exact ow.mk dN.o qI.o HV.o
end mgr
def jH {ops:Array Oper}{o:Oper}{a:Act}(s x:Operand){t:TypeId}{v:acK}
  (hrun:eH t u o.type v src w v' w') (hgd:o.guard=none) (ho:o.op=.call {callee:=.builtin .append,args:=#[s,x],argTypes:=#[t,u]}) (hs:a.eval s=v) (hx:a.eval x=src) (h:K (a.put o.dst v') w'):if Region.wanted o (yielded ops a.tmps)=true then Oper.wp prog o a w K Q else E :=
 qf hgd s x ho hs hx hrun.run h
def xD (w:acL)(g j:Nat)(u:acK):w.grownBy (w.setCell ⟨g,j,none⟩ u) (some g):=⟨rfl,rfl,rfl,by simp[acL.setCell],λk _ hne=>acN.heap_setCell w _ u k (λe=>hne (by rw[e]))⟩
namespace mgr
open RowKit
def R8:(prog.info? 193).map (λi=>(i.zero,i.size,i.bytes))=some (some (.agg #[vi 0,vi 0,vi 0,vi 0]),4,32):=ah
def Kg (a:Option acM)(n c:Nat)(xs:List acK)(w:acL)(hx:xs.length=n*4)(hc:∀ad,a=some ad->∀j u,xs[j]?=some u->w.cell? (ad.add j)=some u)(h1:∀u∈xs,u.oneCell'=true)(hz:a=none->n=0)(hn:n<=100000) :
  ac4 prog 199 #[.slice a n c] w λe w'=>∃v',e=.returned v'/\w'.ownsRow w.heap.size 193 4 v' n xs/\acN w.heap.size w w':=by
 have hen:=λ(w:acL) (a:Option acM) (n c:Nat)=>Lib.run_eql_slice_nil (P:=prog) w 189 193 a n c 0 0 underlying189;cases a with
 |none =>
  have h0:=hz rfl;subst h0;have hx0:xs=[]:=List.eq_nil_of_length_eq_zero aa;subst hx0;clear hx hc h1 hz hn;go_in;go_wp2;go_ret;exact⟨_,rfl,acL.ownsRow_nil _ _ _ _,ak⟩
 |some ad =>
  obtain⟨i0,hi,hz0,hz1,hz2⟩:=info_parts R8;have hown:(w.alloc (.cells #[] 193)).ownsRow w.heap.size 193 4 (.slice (some ⟨w.heap.size,0,none⟩) 0 0) 0 []:=acL.ownsRow_lit w #[] 0 aj (aaW _) rfl;have hb:=(acN.refl w.heap.size w).alloc aj (.cells #[] 193);obtain⟨v',w',hrun,ho,hg,_⟩:=run_append_own_at (P:=prog) (w.alloc (.cells #[] 193)) w.heap.size 189 189 193 i0 _ 4 32 underlying189 hi hz0 hz1 hz2 rfl aa _ 0 [] hown
   ad n c xs aa (λj u hu=>cell_below (hc ad rfl j u hu) hb) h1 (by unfold maxLen;omega) aa ai
  have R:eH 189 189 189 (.slice (some ⟨w.heap.size,0,none⟩) 0 0) (.slice (some ad) n c) (w.alloc (.cells #[] 193)) v' w':=⟨hrun⟩;have HB:=az (hb.grown hg ai (λk hk=>(hown.lt k hk).1));rw[Nat.zero_add,List.nil_append]at ho;have HO:=az ho;clear hrun ho hg hown hi hz0 hz1 hz2 hx hc h1 hz hb;go_in;go_wp2_with (at_builtin;refine wpList_append_run rfl (.tmp 5) (.tmp 6) rfl rfl rfl R.run ?_);go_ret;exact⟨_,rfl,HO.o,HB.o⟩
end mgr
def AJ (w:acL)(a:Option acM)(l:List Bool):Prop:=l=[]\/∃b o,a=some ⟨b,o,none⟩/\∀i,i<l.length->w.cell? ⟨b,o+i,none⟩=some (acg (l.getD i false))
def AJ.lookup {l:List Bool}(h:AJ w a l)(hi:i<l.length):∃b o,a=some ⟨b,o,none⟩/\w.cell? ⟨b,o+i,none⟩=some (acg (l.getD i false)):=by
 rcases h with rfl|⟨b,o,rfl,h⟩;simp at hi;exact⟨b,o,rfl,h i hi⟩
def AJ.old {l:List Bool}(h:AJ w a l)(q:acN w.heap.size w w'):AJ w' a l:=by
 rcases h with h|⟨b,o,rfl,h⟩;exact ack h;exact acm ⟨b,o,rfl,λi hi=>cell_below (h i hi) q⟩
def mgr.jI:(prog.info? 3).map (λi=>(i.zero,i.size,i.bytes))=some (some (vi 0),1,8):=ah
def mgr.Oy (n:Nat)(hn:n<=1000000)(w:acL):(Instr.makeSlice 31 (.int .i64 (n:Int)) (.int .i64 (n:Int))).run prog w=.ok (.slice (some ⟨w.heap.size,0,none⟩) n n) (w.alloc (.cells (madeCells #[vi 0] n) 3)) :=
 run_make_row' 31 3 (vi 0) 8 underlying31 mgr.jI rfl .i64 .i64 n aa aa w
def D7 (w:acL)(cs:Array acK)(t:TypeId):acN w.heap.size w (w.alloc (ach cs t)):=ax
def AL (M:dA)(j:Int)(hB:M.bs.length=M.B):Kc M j=NP.qO M.view j:=by
 have hB':(M.view.B:Int)=M.bs.length:=by rw[hB];rfl
 unfold Kc NP.qO;rw[hB'];by_cases h:0<=j/\j<M.bs.length;rw[if_pos h,if_pos h,kM aa];rfl;rw[if_neg h,if_neg h]
namespace mgr
open RowKit
def firstB (c:NP.bX)(f:Bool)(n:Int)(k:Nat):gcs.aD :=
 if NP.qO c k then ⟨4,0,NP.bC c k,0⟩ else if f then ⟨0,0,NP.bC c k,0⟩ else if 0<n then ⟨2,n,NP.bC c k,0⟩ else ⟨3,0,NP.bC c k,0⟩
def lu (P:Int)(f:Bool)(n:Int):Bool:=decide (n<0)||decide (P<n)||(f&&decide (0<n))
def firstL (c:NP.bX)(fresh:List Bool)(live:List Int)(n:Nat):List gcs.aD:=(List.range n).map λk=>firstB c (fresh.getD k false) (live.getD k 0) k
def uq (l:List gcs.aD):Bool:=decide (4<wrap64 (gcs.l9 l-gcs.eP l))
def jX (c:NP.bX)(fresh:List Bool)(live:List Int)(aC bad:Int):Int×Option Mg :=
 if c.down then (4,none)
 else if fresh.length≠c.B\/live.length≠c.B\/aC<0\/bad<0 then (1,none)
 else if (List.range c.B).all (λk=> !lu c.P (fresh.getD k false) (live.getD k 0)) then (0,some ⟨firstL c fresh live c.B,-1,aC,bad,uq (firstL c fresh live c.B)⟩)
 else (1,none)
def firstL_length (c:NP.bX)(fresh:List Bool)(live:List Int)(n:Nat):(firstL c fresh live n).length=n:=by simp[firstL]
def firstL_succ (c:NP.bX)(fresh:List Bool)(live:List Int)(n:Nat):firstL c fresh live (n+1)=firstL c fresh live n++[firstB c (fresh.getD n false) (live.getD n 0) n]:=by
 simp[firstL,List.range_succ]
def AO (f:Nat->Bool)(n:Nat):(List.range (n+1)).all f=((List.range n).all f&&f n):=by
 simp[List.range_succ]
def Di {f:Nat->Bool}{n:Nat}(h:n<B)(hf:f n=false):(List.range B).all f=false:=by
 rw[List.all_eq_false];exact⟨n,List.mem_range.2 h,by simp[hf]⟩
def Ih {c:NP.bX}{fresh:List Bool}{live:List Int}{aC bad:Int}{e:Int}{g:Mg}(h:jX c fresh live aC bad=(e,some g)):g.ok c/\e=0/\g.at_= -1:=by
 unfold jX at h;split at h;simp at h;split at h;simp at h;split at h;rename_i h1 h2 h3;injection h with h4 h5;injection h5 with h5;subst h5;have hw:∀k,k<c.B->lu c.P (fresh.getD k false) (live.getD k 0)=false:=by
  intro k hk;have:=List.all_eq_true.1 h3 k (List.mem_range.2 hk);simpa using this
 have hP:(0:Int)<=c.P:=aa;have hx:∀x∈firstL c fresh live c.B,∃k,k<c.B/\x=firstB c (fresh.getD k false) (live.getD k 0) k:=by
  intro x hx;obtain⟨k,hk,rfl⟩:=aay.1 hx;exact⟨k,List.mem_range.1 hk,rfl⟩
 have hr:∀x∈firstL c fresh live c.B,0<=x.s/\x.s<=4/\0<=x.l/\x.l<=c.P/\x.n=0/\x.s≠1/\(x.s≠2->x.l=0):=by
  intro x hx';obtain⟨k,hk,rfl⟩:=hx x hx';have:=hw k hk;unfold lu at this;simp only[Bool.or_eq_false_iff,decide_eq_false_iff_not]at this;unfold firstB
  generalize live.getD k 0=n at*;split;dsimp only;omega;split;dsimp only;omega;split;dsimp only;omega;dsimp only;omega
 refine⟨⟨firstL_length _ _ _ _,?_,?_,?_,ack rfl,?_⟩,h4.symm,rfl⟩;intro x hx';have:=hr x hx';omega;intro x hx' a b;exact(hr x hx').2.2.2.2.2.2 b;intro x hx' a;exact absurd a (hr x hx').2.2.2.2.2.1;intro i hi hs;exact absurd hs (hr _ (dG hi)).2.2.2.2.2.1;simp at h
def Kh:(prog.info? 193).map (λi=>(i.zero,i.size,i.bytes))=some (some (.agg #[vi 0,vi 0,vi 0,vi 0]),4,32):=ah
def uP (w:acL)(b0:Nat)(v:acK)(l:List gcs.aD):Prop:=w.ownsRow b0 193 4 v l.length (l.flatMap gQ)
section
variable{w':acL}{b0:Nat}{v:acK}{l:List gcs.aD}
def uP.grown (h:uP w b0 v l){row:Option Nat}(q:w.grownBy w' row)(hne:v.ownBlock=none\/v.ownBlock≠row):uP w' b0 v l:=acL.ownsRow.kept h q hne
def uP.old (h:uP w b0 v l)(hb:acN w.heap.size w w'):uP w' b0 v l :=
 h.grown (row:=none) ⟨hb.os,hb.tape,hb.output,hb.size,λk hk _=>hb.block k hk⟩ (by cases hv:v.ownBlock<;>simp)
def uP.form (h:uP w b0 v l):∃a c,v=aco a l.length c:=by
 rcases h.2 with⟨rfl,h0⟩|⟨g,cap,cur,rfl,_⟩;exact⟨none,0,by rw[h0]⟩;exact⟨_,_,rfl⟩
def uP.row (h:uP w b0 v l):∀b,v.ownBlock=some b->b0<=b/\∃cur,aD w b 193 cur:=by
 intro b hb;rcases h.2 with⟨rfl,_⟩|⟨g,cap,cur,rfl,hg,hh,_⟩;simp[acK.ownBlock]at hb;simp[acK.ownBlock]at hb;subst hb;exact⟨hg,cur,hh⟩
def Fg (hown:uP w b0 v l)(x:gcs.aD)(hn:l.length+1<=1000000)(hb:b0<=w.heap.size) :
  ∃v' w',eH 189 189 189 v (.slice (some ⟨w.heap.size,0,none⟩) 1 1) (w.alloc (.cells #[vi x.s,vi x.l,vi x.r,vi x.n] 193)) v' w'/\uP w' b0 v' (l++[x])/\(w.alloc (.cells #[vi x.s,vi x.l,vi x.r,vi x.n] 193)).grownBy w' v.ownBlock:=by
 obtain⟨i0,hi,hz0,hz1,hz2⟩:=info_parts Kh;have hown':=hown.old ((acN.refl _ w).alloc aj (.cells #[vi x.s,vi x.l,vi x.r,vi x.n] 193));obtain⟨v',w',h1,h2,h3,_⟩:=run_append_own_at (P:=prog) (w.alloc (.cells #[vi x.s,vi x.l,vi x.r,vi x.n] 193)) b0 189 189 193 i0 _ 4 32 underlying189 hi hz0 hz1 hz2 rfl aa v l.length (l.flatMap gQ) hown'
  ⟨w.heap.size,0,none⟩ 1 1 (gQ x) rfl (λj u hu=>by
   rw[add_plain,Nat.zero_add,(aD.new w 193 #[vi x.s,vi x.l,vi x.r,vi x.n]).cell]
   simpa[gQ] using hu) (by intro u hu;simp[gQ]at hu;rcases hu with rfl|rfl|rfl|rfl<;>rfl)
   (by unfold maxLen;omega) aa (by simp;omega)
 refine⟨v',w',⟨h1⟩,?_,h3⟩;unfold uP;rw[List.length_append,List.flatMap_append];simpa using h2
end
structure OpenSt (w:acL)(k m:Nat)(aC bad:Int)(l:List gcs.aD)(v:acK)(wr:acL):Prop where
 below:acN w.heap.size w wr
 mgr:aD wr m 191 #[ptr k,v,vi (-1),vi aC,vi bad,acg false]
 own:uP wr w.heap.size v l
 low:w.heap.size<=m
section
variable{wr w':acL}{m:Nat}{aC bad:Int}{l:List gcs.aD}{v:acK}
def OpenSt.old (h:OpenSt w k m aC bad l v wr)(q:acN wr.heap.size wr w'):OpenSt w k m aC bad l v w':=⟨h.below.trans (q.mono h.below.size),h.mgr.old q,h.own.old q,h.low⟩
def OpenSt.var (h:OpenSt w k m aC bad l v wr){g j:Nat}(hw:w.heap.size<=g)(ho:v.ownBlock≠some g)(hk:g≠m)(u:acK):OpenSt w k m aC bad l v (wr.setCell ⟨g,j,none⟩ u) :=
 ⟨h.below.setCell (p:=⟨g,j,none⟩) hw u,h.mgr.far (p:=⟨g,j,none⟩) hk.symm u,h.own.grown (row:=some g) (xD wr g j u) (acm ho),h.low⟩
def OpenSt.next (h:OpenSt w k m aC bad l v wr){w5:acL}{x:gcs.aD}(ho:uP w5 w.heap.size v' (l++[x]))(hgr:(wr.alloc (ach #[vi x.s,vi x.l,vi x.r,vi x.n] 193)).grownBy w5 v.ownBlock) :
  OpenSt w k m aC bad (l++[x]) v' (w5.setCell ⟨m,1,none⟩ v'):=by
 have hoa:=h.own.old ((acN.refl _ wr).alloc aj (ach #[vi x.s,vi x.l,vi x.r,vi x.n] 193));have JR:aD w5 m 191 _:=(h.mgr.alloc (ach #[vi x.s,vi x.l,vi x.r,vi x.n] 193)).grown hgr (bU hoa (h.mgr.alloc _) ag);have hk5:some m≠v'.ownBlock:=bU ho JR ag;refine⟨?_,JR.bB 1 v',ho.grown (row:=some m) (xD w5 m 1 v') (acm (λe=>hk5 e.symm)),h.low⟩;exact((h.below.alloc h.below.size _).grown hgr (h.below.alloc h.below.size _).size (λb e=>(hoa.row b e).1)).setCell (p:=⟨m,1,none⟩) h.low _
end
end mgr
end Go.Proofs.YtllmbcigmimgoaaGreat
