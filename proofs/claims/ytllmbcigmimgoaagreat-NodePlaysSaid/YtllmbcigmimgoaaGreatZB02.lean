/-
  Lemmas for a law's proof, put together from several texts. No conditions of their own.
-/
import Derived.Test.YtllmbcigmimgoaaGreatZB01
import Derived.Deep.QuietTactic
import Derived.Deep.DeepCutAuto
import Derived.BigQuiet
import Derived.Deep.RegionHeld3
import Derived.BigRegion
import Derived.StillTailTactics
import Derived.Laws.CopyOwn
import Derived.Deep.OwnRows
import Derived.Laws.Bits64b
import Derived.Deep.RegionLaw
import Derived.Outline
set_option maxRecDepth 100000
set_option maxHeartbeats 20000000
set_option linter.all false
namespace Go.Proofs.YtllmbcigmimgoaaGreat
open _root_.Go.Proofs.Tryz
open _root_.Go renaming Value->acK,World->acL,Calls->ac4,bodyPost_ret->ac5
open _root_.Go.Ending renaming returned->ab4
open _root_.Go.Exit renaming noGoto_ret->acY
open _root_.Go.Obj renaming cells->ach
open _root_.Go.RowKit renaming Below->acN
open _root_.Go.RowKit.Below renaming refl->ac3
open _root_.Go.Value renaming bool->acg,slice->aco
open _root_.Int renaming toNat_natCast->acW
open _root_.List renaming replicate->aaA,getD_eq_getElem?_getD->aah,getElem?_eq_getElem->aaj,length_replicate->abP,length_take->acX,length_append->acZ,length_set->abZ,take_of_length_le->ac0,set_set->ac2
open _root_.Nat renaming zero_le->aaW
open _root_.Or renaming inl->ack,inr->acm
namespace gcs
open RowKit
def Al (args:Array acK)(W:acL):(callFunc 150 args).run prog W=.ok (.enter 150 args) W:=dI func150 ah rfl args W
def Am (args:Array acK)(W:acL):(callFunc 223 args).run prog W=.ok (.enter 223 args) W:=dI func223 ah rfl args W
def nN (args:Array acK)(W:acL):(callFunc 225 args).run prog W=.ok (.enter 225 args) W:=dI func225 ah rfl args W
def Rt (args:Array acK)(W:acL):(callFunc 152 args).run prog W=.ok (.enter 152 args) W:=dI func152 ah rfl args W
def Ru (args:Array acK)(W:acL):(callFunc 151 args).run prog W=.ok (.enter 151 args) W:=dI func151 ah rfl args W
def Rv (args:Array acK)(W:acL):(callFunc 219 args).run prog W=.ok (.enter 219 args) W:=dI func219 ah rfl args W
def Rw (args:Array acK)(W:acL):(callFunc 221 args).run prog W=.ok (.enter 221 args) W:=dI func221 ah rfl args W
def Rx (args:Array acK)(W:acL):(callFunc 224 args).run prog W=.ok (.enter 224 args) W:=dI func224 ah rfl args W
def Rz (args:Array acK)(W:acL):(callFunc 227 args).run prog W=.ok (.enter 227 args) W:=dI func227 ah rfl args W
def RG (args:Array acK)(W:acL):(callFunc 228 args).run prog W=.ok (.enter 228 args) W:=dI func228 ah rfl args W
def RH (args:Array acK)(W:acL):(callFunc 230 args).run prog W=.ok (.enter 230 args) W:=dI func230 ah rfl args W
def lh (p:Int)(bs:List aD):Bool:= !(decide (p<1))&& !(decide (32<p))&&bs.all (bH p)
def jW (x:aD):Bool:=x.s != 4
def DW (x y:aD):Bool:=decide (y.r<x.r)
def bC (bs:List aD)(k:Int):Int:=if k<0 then 0 else (bs.getD k.toNat default).r
def eP (bs:List aD):Int:=bC bs (iP jW fH bs)
def l9 (bs:List aD):Int:=bC bs (iP jW DW bs)
def Dc {α:Type}(f:α->Bool)(l:List α)(d:α)(k:Nat)(h:k<l.length):(l.take (k+1)).all f=((l.take k).all f&&f (l.getD k d)):=by
 rw[List.take_succ_eq_append_getElem h,List.all_append,aah,aaj h];simp
def J8 {α:Type}(f:α->Bool)(l:List α)(d:α)(k:Nat)(h:k<l.length)(hf:f (l.getD k d)=false):l.all f=false:=by
 rw[aah,aaj h]at hf;rw[List.all_eq_false];exact⟨_,List.getElem_mem h,by simpa using hf⟩
def ky (P:aD->Bool)(Q:aD->aD->Bool)(bs:List aD): -1<=iP P Q bs/\iP P Q bs<bs.length:=xm P Q bs bs.length
def xq (v:acK)(bs:List aD)(p:Int)(w:acL)(hrow:Row w v bs) :
  ac4 prog 218 #[v,vi p] w λe w'=>e=ab4 (acg (lh p bs))/\acN w.heap.size w w':=by
 obtain⟨hlen,a,cap,rfl,hrow⟩:=hrow;have HR:=az hrow;clear hrow;go_in;go_wp2_with fail;go_step3;by_cases h1:p<1
 ·go_wp2_with fail;try rw[acY]
  go_ret;exact⟨aU (by simp[lh,h1]),ak⟩
 by_cases h2:32<p
 ·go_wp2_with fail;try rw[acY]
  go_ret;exact⟨aU (by simp[lh,h2]),ak⟩
 go_wp2_with fail;go_step3;go_wp2_with fail;go_loopw [5,16] (λg i wr=>∃k:Nat,k<=bs.length/\i=vi k/\g=acg true/\(bs.take k).all (bH p)=true/\acN w.heap.size w wr) (λ_ i _=>bs.length-(intOf i).toNat)
 case atStart=>exact⟨0,aaW _,rfl,rfl,ai,ak⟩
 case round =>
  obtain⟨k,hk,rfl,rfl,hall,hb⟩:=hrel;by_cases hlt:k<bs.length
  ·rcases HR.o with h0|⟨b,o,rfl,hc⟩;rw[h0]at hlt;simp at hlt;have hx:=(hc k hlt).below hb;have hst:=Dc (bH p) bs default k hlt;rw[hall]at hst;have hno:=J8 (bH p) bs default k hlt;clear hc hall;generalize bs.getD k default=x at hx hst hno;obtain⟨g0,g1,g2,g3⟩:=hx;have Hst:=az hst;have Hno:=az hno;clear hst hno;go_wp2_with fail;refine(Oa x p _).mono ?_;rintro e w1 ⟨rfl,hb1⟩;have hb2:=hb.trans (((ac3 wr.heap.size wr).alloc aj (ach #[vi x.s,vi x.l,vi x.r,vi x.n] 193)).trans (hb1.mono ai) |>.mono hb.size);cases hr:bH p x
   ·go_wp2_with fail;try rw[acY]
    go_ret;have h3:=Hno.o hr;exact⟨aU (by simp[lh,h3]),hb2⟩
   go_wp2;go_roundw
   case rel=>exact⟨k+1,aa,by go_num,rfl,by rw[Hst.o,hr];rfl,hb2⟩
   case measure=>simp[intOf];omega
  go_wp2_with fail;try rw[acY]
  go_ret;obtain rfl:k=bs.length:=aa;rw[List.take_length]at hall;exact⟨aU (by simp[lh,h1,h2,hall]),hb⟩
def aam (x y:aD)(w:acL) :
  ac4 prog 152 #[x.v,y.v] w λe w'=>e=ab4 (acg (fH x y))/\acN w.heap.size w w':=by
 go_in;go_wp2;go_ret;exact⟨rfl,ax.alloc ai _⟩
def aan (x y:aD)(w:acL) :
  ac4 prog 151 #[x.v,y.v] w λe w'=>e=ab4 (acg (DW x y))/\acN w.heap.size w w':=by
 go_in;go_wp2;go_ret;exact⟨rfl,ax.alloc ai _⟩
variable{w:acL}
def Row.lookup {a:Option Addr}{bs:List aD}{cap:Nat}(h:Row w (aco a bs.length cap) bs){k:Nat}(hk:k<bs.length) :
  ∃b o,a=some ⟨b,o,none⟩/\At4 w b (o+k*4) (bs.getD k default):=by
 obtain⟨_,a',cap',he,h⟩:=h;injection he with he _ _;subst he;rcases h with h|⟨b,o,rfl,h⟩;rw[h]at hk;simp at hk;exact⟨b,o,rfl,h k hk⟩
def DX (v:acK)(bs:List aD)(w:acL)(hrow:Row w v bs) :
  ac4 prog 125 #[v] w λe w'=>e=ab4 (vi (eP bs))/\acN w.heap.size w w':=by
 have HR:=az hrow;obtain⟨hlen,a,cap,rfl,-⟩:=hrow;go_in;go_wp2_with fail;refine(mE 150 152 #[] #[] _ bs _ jW fH HR.o Al Rt (λx W _ _=>Aj x W) (λx y W _=>aam x y W)).mono ?_;rintro e w1 ⟨rfl,hb1⟩;have hbd:=ky jW fH bs;have hL:eP bs=bC bs (iP jW fH bs):=rfl;generalize iP jW fH bs=k at*;have HL:=az hL;clear hL;by_cases h0:k<0
 ·go_wp2;go_ret;exact⟨bS (by rw[HL.o,bC,if_pos h0]),hb1⟩
 obtain⟨j,rfl⟩:∃j:Nat,k=j:=⟨k.toNat,aa⟩;obtain⟨b,o,rfl,hc⟩:=(HR.o.below hb1).lookup (k:=j) aa;have hc2:=hc.2.2.1;have HW:Hid (bC bs (j:Int)=(bs.getD j default).r):=by show _=_;rw[bC,if_neg h0];rfl
 generalize (bs.getD j default).r=r at hc2 HW;clear hc;go_wp2;go_ret;exact⟨bS (by rw[HL.o,HW.o]),hb1⟩
def ES (v:acK)(bs:List aD)(w:acL)(hrow:Row w v bs) :
  ac4 prog 124 #[v] w λe w'=>e=ab4 (vi (l9 bs))/\acN w.heap.size w w':=by
 have HR:=az hrow;obtain⟨hlen,a,cap,rfl,-⟩:=hrow;go_in;go_wp2_with fail;refine(mE 150 151 #[] #[] _ bs _ jW DW HR.o Al Ru (λx W _ _=>Aj x W) (λx y W _=>aan x y W)).mono ?_;rintro e w1 ⟨rfl,hb1⟩;have hbd:=ky jW DW bs;have hL:l9 bs=bC bs (iP jW DW bs):=rfl;generalize iP jW DW bs=k at*;have HL:=az hL;clear hL;by_cases h0:k<0
 ·go_wp2;go_ret;exact⟨bS (by rw[HL.o,bC,if_pos h0]),hb1⟩
 obtain⟨j,rfl⟩:∃j:Nat,k=j:=⟨k.toNat,aa⟩;obtain⟨b,o,rfl,hc⟩:=(HR.o.below hb1).lookup (k:=j) aa;have hc2:=hc.2.2.1;have HW:Hid (bC bs (j:Int)=(bs.getD j default).r):=by show _=_;rw[bC,if_neg h0];rfl
 generalize (bs.getD j default).r=r at hc2 HW;clear hc;go_wp2;go_ret;exact⟨bS (by rw[HL.o,HW.o]),hb1⟩
abbrev pt (b:Nat):acK:=.pointer (some ⟨b,0,none⟩)
abbrev fn0 (f:Nat):acK:=.func (.func f) #[] #[]
def iK (x:aD):Bool:=x.s==3
def fullB (aK:Bool)(x:aD):Bool:=aK&&x.s==2
def og (least:Int)(x:aD):Bool:=x.r==least&&(x.s==0||x.s==1&&x.n==0)
def RI (x:aD)(w:acL) :
  ac4 prog 219 #[x.v] w λe w'=>e=ab4 (acg (iK x))/\acN w.heap.size w w':=by
 go_in;go_wp2;go_ret;exact⟨rfl,ax⟩
def aY {a:Addr}{v:acK}(h:w.cell? a=some v)(o:Obj):(w.alloc o).cell? a=some v :=
 cell_below h ax
def J9 (x:aD)(aK:Bool)(br:Nat)(w:acL)(hr:w.cell? ⟨br,0,none⟩=some (acg aK)) :
  ac4 prog 220 #[x.v,pt br] w λe w'=>e=ab4 (acg (fullB aK x))/\acN w.heap.size w w':=by
 have h1:∀o,(w.alloc o).cell? ⟨br,0,none⟩=some (acg aK):=λo=>aY hr o
 cases aK;all_goals
  go_in;go_wp2;go_ret;exact⟨rfl,ax⟩
def sG (x:aD):Prop:=0<=x.r/\x.r<=1099511627776
variable{w1:acL}
def Ww (x:aD)(T:TypeId)(h:acN (w.alloc (ach #[vi x.s,vi x.l,vi x.r,vi x.n] T)).heap.size (w.alloc (ach #[vi x.s,vi x.l,vi x.r,vi x.n] T)) w1) :
  (w1.cell? ⟨w.heap.size,0,none⟩=some (vi x.s)/\w1.cell? ⟨w.heap.size,1,none⟩=some (vi x.l)/\w1.cell? ⟨w.heap.size,2,none⟩=some (vi x.r)/\w1.cell? ⟨w.heap.size,3,none⟩=some (vi x.n))/\acN w.heap.size w w1 :=
 ⟨⟨cell_below ai h,cell_below ai h,cell_below ai h,cell_below ai h⟩,ax.trans (h.mono ai)⟩
def aao (x:aD)(least:Int)(bs bl:Nat)(w:acL)(hs:w.cell? ⟨bs,0,none⟩=some (fn0 219))(hl:w.cell? ⟨bl,0,none⟩=some (vi least))
  (hx:sG x) (h3:0<=least) (h4:least<=1099511627776) :
  ac4 prog 221 #[x.v,pt bs,pt bl] w λe w'=>e=ab4 (acg (iK x&&qV least x))/\acN w.heap.size w w':=by
 have hx':=az hx;clear hx;have f0:∀o,(w.alloc o).cell? ⟨bs,0,none⟩=some (fn0 219):=λo=>aY hs o
 go_in;go_wp2_with fail;refine(RI x _).mono ?_;rintro e w1 ⟨rfl,hb1⟩;have k1:w1.cell? ⟨bl,0,none⟩=some (vi least):=cell_below (aY hl _) hb1;obtain⟨⟨c0,c1,c2,c3⟩,hb2⟩:=Ww x 193 hb1;clear hb1;cases h:iK x
 ·go_wp2;go_ret;exact⟨aU (by simp[h]),hb2⟩
 go_wp2_with fail;refine(MC x least _ hx'.o.1 hx'.o.2 h3 h4).mono ?_;rintro e w2 ⟨rfl,hb3⟩;go_wp2;go_ret;exact⟨aU (by simp[h]),hb2.trans (hb3.mono hb2.size)⟩
def aap (x:aD)(least p:Int)(aK:Bool)(bf bl bp br:Nat)(w:acL)(hf:w.cell? ⟨bf,0,none⟩=some (.func (.func 220) #[] #[pt br]))(hr:w.cell? ⟨br,0,none⟩=some (acg aK))
  (hl:w.cell? ⟨bl,0,none⟩=some (vi least)) (hp:w.cell? ⟨bp,0,none⟩=some (vi p))
  (hx:sG x) (h3:0<=least) (h4:least<=1099511627776) :
  ac4 prog 224 #[x.v,pt bf,pt bl,pt bp] w λe w'=>e=ab4 (acg (fullB aK x&&qV least x&&decide (x.l<p)))/\acN w.heap.size w w':=by
 have hx':=az hx;clear hx;have f0:∀o,(w.alloc o).cell? ⟨bf,0,none⟩=some (.func (.func 220) #[] #[pt br]):=λo=>aY hf o
 have f1:∀o,(w.alloc o).cell? ⟨br,0,none⟩=some (acg aK):=λo=>aY hr o
 go_in;go_wp2_with fail;refine(J9 x aK br _ (f1 _)).mono ?_;rintro e w1 ⟨rfl,hb1⟩;have k1:w1.cell? ⟨bl,0,none⟩=some (vi least):=cell_below (aY hl _) hb1;have k2:w1.cell? ⟨bp,0,none⟩=some (vi p):=cell_below (aY hp _) hb1;obtain⟨⟨c0,c1,c2,c3⟩,hb2⟩:=Ww x 193 hb1;clear hb1;cases h:fullB aK x
 ·go_wp2;go_ret;exact⟨aU (by simp[h]),hb2⟩
 go_wp2_with fail;refine(MC x least _ hx'.o.1 hx'.o.2 h3 h4).mono ?_;rintro e w2 ⟨rfl,hb3⟩;have k2':=cell_below k2 hb3;have c1':=cell_below c1 hb3;have hb4:=hb2.trans (hb3.mono hb2.size);clear hb3 k1 k2 c0 c1 c2 c3;cases h':qV least x
 ·go_wp2;go_ret;exact⟨aU (by simp[h,h']),hb4⟩
 go_wp2;go_ret;exact⟨aU (by simp[h,h']),hb4⟩
def aaq (x:aD)(least:Int)(bl:Nat)(w:acL)(hl:w.cell? ⟨bl,0,none⟩=some (vi least)) :
  ac4 prog 227 #[x.v,pt bl] w λe w'=>e=ab4 (acg (og least x))/\acN w.heap.size w w':=by
 have f0:∀o,(w.alloc o).cell? ⟨bl,0,none⟩=some (vi least):=λo=>aY hl o
 by_cases h1:(x.r==least)=true
 ·by_cases h2:(x.s==0)=true
  ·go_in;go_wp2;go_ret;exact⟨aU (by simp[og,h1,h2]),ax⟩
  have h2':(x.s==0)=false:=by simpa using h2
  by_cases h3:(x.s==1)=true
  ·go_in;go_wp2;go_ret;exact⟨aU (by simp[og,h1,h2',h3]),ax⟩
  have h3':(x.s==1)=false:=by simpa using h3
  go_in;go_wp2;go_ret;exact⟨aU (by simp[og,h1,h2',h3']),ax⟩
 have h1':(x.r==least)=false:=by simpa using h1
 go_in;go_wp2;go_ret;exact⟨aU (by simp[og,h1']),ax⟩
def aar (x:aD)(least:Int)(aK:Bool)(bf bl br:Nat)(w:acL)(hf:w.cell? ⟨bf,0,none⟩=some (.func (.func 220) #[] #[pt br]))(hr:w.cell? ⟨br,0,none⟩=some (acg aK))
  (hl:w.cell? ⟨bl,0,none⟩=some (vi least)) :
  ac4 prog 228 #[x.v,pt bf,pt bl] w λe w'=>e=ab4 (acg (fullB aK x&&x.r==least))/\acN w.heap.size w w':=by
 have f0:∀o,(w.alloc o).cell? ⟨bf,0,none⟩=some (.func (.func 220) #[] #[pt br]):=λo=>aY hf o
 have f1:∀o,(w.alloc o).cell? ⟨br,0,none⟩=some (acg aK):=λo=>aY hr o
 go_in;go_wp2_with fail;refine(J9 x aK br _ (f1 _)).mono ?_;rintro e w1 ⟨rfl,hb1⟩;have k1:w1.cell? ⟨bl,0,none⟩=some (vi least):=cell_below (aY hl _) hb1;obtain⟨⟨c0,c1,c2,c3⟩,hb2⟩:=Ww x 193 hb1;clear hb1;cases h:fullB aK x;all_goals
  go_wp2;go_ret;exact⟨aU (by simp[h]),hb2⟩
def aas (x:aD)(p:Int)(aK:Bool)(bf bp br:Nat)(w:acL)(hf:w.cell? ⟨bf,0,none⟩=some (.func (.func 220) #[] #[pt br]))(hr:w.cell? ⟨br,0,none⟩=some (acg aK))
  (hp:w.cell? ⟨bp,0,none⟩=some (vi p)) :
  ac4 prog 230 #[x.v,pt bf,pt bp] w λe w'=>e=ab4 (acg (fullB aK x&&decide (x.l<p)))/\acN w.heap.size w w':=by
 have f0:∀o,(w.alloc o).cell? ⟨bf,0,none⟩=some (.func (.func 220) #[] #[pt br]):=λo=>aY hf o
 have f1:∀o,(w.alloc o).cell? ⟨br,0,none⟩=some (acg aK):=λo=>aY hr o
 go_in;go_wp2_with fail;refine(J9 x aK br _ (f1 _)).mono ?_;rintro e w1 ⟨rfl,hb1⟩;have k1:w1.cell? ⟨bp,0,none⟩=some (vi p):=cell_below (aY hp _) hb1;obtain⟨⟨c0,c1,c2,c3⟩,hb2⟩:=Ww x 193 hb1;clear hb1;cases h:fullB aK x;all_goals
  go_wp2;go_ret;exact⟨aU (by simp[h]),hb2⟩
def firstTo (P:aD->Bool):List aD->Nat->Int
 |[],_=> -1
 |x::l,k=>if P x then k else firstTo P l (k+1)
def first (P:aD->Bool)(bs:List aD):Int:=firstTo P bs 0
def firstTo_bd (P:aD->Bool):∀(l:List aD) (k:Nat),firstTo P l k= -1\/(k:Int)<=firstTo P l k/\firstTo P l k<k+l.length
 |[],_=>ack rfl
 |x::l,k=>by
  unfold firstTo
  split
  exact acm ⟨aa,by simp;omega⟩
  rcases firstTo_bd P l (k+1) with h|h
  exact ack h
  exact acm ⟨aa,by simp at h ⊢;omega⟩
def first_bd (P:aD->Bool)(bs:List aD): -1<=first P bs/\first P bs<bs.length:=by
 rcases firstTo_bd P bs 0 with h|h<;>unfold first<;>omega
def firstTo_drop (P:aD->Bool)(bs:List aD)(k:Nat)(h:k<bs.length):firstTo P (bs.drop k) k=if P (bs.getD k default) then (k:Int) else firstTo P (bs.drop (k+1)) (k+1):=by
 rw[List.drop_eq_getElem_cons h,firstTo,aah,aaj h];rfl
def De (F:Nat)(cm:Array acK)(v:acK)(bs:List aD)(w:acL)(P:aD->Bool)(hrow:Row w v bs)
  (hF:∀args W,(callFunc F args).run prog W=.ok (.enter F args) W)
  (Rs:∀(x:aD) (W:acL),x∈bs->acN w.heap.size w W->ac4 prog F (#[x.v]++cm) W λe W'=>e=ab4 (acg (P x))/\acN W.heap.size W W') :
  ac4 prog 226 #[v,.func (.func F) #[] cm] w λe w'=>e=ab4 (vi (first P bs))/\acN w.heap.size w w':=by
 have HR:=az hrow;obtain⟨hlen,a,cap,rfl,-⟩:=hrow;have HM:=az Rs;clear Rs;go_in;go_wp2_with fail;go_loopw [8] (λi wr=>∃k:Nat,k<=bs.length/\i=vi k/\first P bs=firstTo P (bs.drop k) k/\acN w.heap.size w wr) (λi _=>bs.length-(intOf i).toNat)
 case atStart=>exact⟨0,aaW _,rfl,rfl,ak⟩
 case round =>
  obtain⟨k,hk,rfl,hf,hb⟩:=hrel;have Hf:=az hf;clear hf;by_cases hlt:k<bs.length
  ·obtain⟨b,o,rfl,hx⟩:=(HR.o.below hb).lookup hlt;have hin:bs.getD k default∈bs:=by rw[aah,aaj hlt];exact List.getElem_mem hlt
   have hd:=firstTo_drop P bs k hlt;generalize bs.getD k default=x at hx hin hd;obtain⟨g0,g1,g2,g3⟩:=hx;have Hin:=az hin;have Hd:=az hd;clear hin hd;go_wp2_with fail;refine(HM.o x _ Hin.o hb).mono ?_;rintro e w1 ⟨rfl,hb1⟩;have hb2:=hb.trans (hb1.mono hb.size);cases hP:P x
   ·go_wp2;go_roundw
    case rel=>exact⟨k+1,aa,by go_num,by rw[Hf.o,Hd.o,hP];rfl,hb2⟩
    case measure=>simp[intOf];omega
   go_wp2;go_ret;exact⟨bS (by rw[Hf.o,Hd.o,hP];rfl),hb2⟩
  go_wp2;go_ret;obtain rfl:k=bs.length:=aa;exact⟨bS (by rw[Hf.o,List.drop_length];rfl),hb⟩
abbrev xu (a:Int×Int):acK:=.agg #[vi a.1,vi a.2]
def xx (aK:Bool)(p:Int)(x:aD):Bool:=fullB aK x&&decide (x.l<p)
def jF (k:Int)(aL:Int)(r:Int×Int):Int×Int:=if 0<=k then (aL,k) else r
def forcedL (bs:List aD)(p:Int)(aK:Bool):Int×Int :=
 jF (iP iK fH bs) 4 (jF (iP (xx aK p) dB bs) 4 (0,-1))
def vG (bs:List aD)(p:Int)(aK:Bool):Int×Int :=
 if lh p bs then
  jF (iP (λx=>iK x&&qV (eP bs) x) fH bs) 1
   (jF (iP (λx=>fullB aK x&&qV (eP bs) x&&decide (x.l<p)) dB bs) 2
    (jF (first (og (eP bs)) bs) 3
     (jF (iP (λx=>fullB aK x&&x.r==eP bs) dB bs) 2 (forcedL bs p aK))))
 else (0,-1)
def ma {k aL:Int}{r:Int×Int}(h:0<=k):jF k aL r=(aL,k):=if_pos h
def mF {k aL:Int}{r:Int×Int}(h:k<0):jF k aL r=r:=if_neg aa
variable{u:acK}
def agZ {v:acK}{T:TypeId}(h:acN (w.alloc (ach #[u,v] T)).heap.size (w.alloc (ach #[u,v] T)) w1) :
  (w1.cell? ⟨w.heap.size,0,none⟩=some u/\w1.cell? ⟨w.heap.size,1,none⟩=some v/\w1.frozen? ⟨w.heap.size,0,none⟩=false/\w1.frozen? ⟨w.heap.size,1,none⟩=false)/\acN w.heap.size w w1 :=
 ⟨⟨cell_below ai h,cell_below ai h,by rw[h.frozen ai];simp,by rw[h.frozen ai];simp⟩,ax.trans (h.mono ai)⟩
def Ht {b:Nat}{v:acK}(h:w.cell? ⟨b,0,none⟩=some u/\w.cell? ⟨b,1,none⟩=some v/\w.frozen? ⟨b,0,none⟩=false/\w.frozen? ⟨b,1,none⟩=false)(hb:acN w.heap.size w w1) :
  w1.cell? ⟨b,0,none⟩=some u/\w1.cell? ⟨b,1,none⟩=some v/\w1.frozen? ⟨b,0,none⟩=false/\w1.frozen? ⟨b,1,none⟩=false :=
 ⟨cell_below h.1 hb,cell_below h.2.1 hb,(hb.frozen (lU h.1)).trans h.2.2.1,(hb.frozen (lU h.2.1)).trans h.2.2.2⟩
def forced_any (v:acK)(bs:List aD)(p:Int)(aK:Bool)(bf bp br:Nat)(w:acL)(hrow:Row w v bs)
  (hf:w.cell? ⟨bf,0,none⟩=some (.func (.func 220) #[] #[pt br])) (hr:w.cell? ⟨br,0,none⟩=some (acg aK)) (hp:w.cell? ⟨bp,0,none⟩=some (vi p)) :
  ac4 prog 229 #[v,fn0 219,.func (.func 230) #[] #[pt bf,pt bp]] w λe w'=>e=ab4 (xu (forcedL bs p aK))/\acN w.heap.size w w':=by
 have HR:=az hrow;clear hrow;have HL:=az (show forcedL bs p aK=jF (iP iK fH bs) 4 (jF (iP (xx aK p) dB bs) 4 (0,-1)) from rfl);go_in;go_wp2_with fail;refine(mE 219 223 #[] #[] _ bs _ iK fH (HR.o.below ax) Rv Am (λx W _ _=>RI x W) (λx y W _=>Ak x y W)).mono ?_;rintro e w1 ⟨rfl,hb1⟩;obtain⟨hk,hb2⟩:=agZ hb1;have hbd:=ky iK fH bs;generalize iP iK fH bs=k1 at*;clear hb1;by_cases h1:0<=k1
 ·obtain⟨c0,c1,f0,f1⟩:=hk;go_wp2_with fail;refine ac5 (v:=xu (4,k1)) (by simp[results,results229,go_sem,c0,c1]) rfl ⟨by rw[HL.o,ma h1],?_⟩;exact(hb2.setCell (p:=⟨w.heap.size,0,none⟩) aj _).setCell (p:=⟨w.heap.size,1,none⟩) aj _
 have h1':k1<0:=aa;go_wp2_with fail;refine(mE 230 225 #[pt bf,pt bp] #[] _ bs _ (xx aK p) dB (HR.o.below hb2) RH nN
  (λx W _ hW=>aas x p aK bf bp br W (cell_below (cell_below hf hb2) hW) (cell_below (cell_below hr hb2) hW) (cell_below (cell_below hp hb2) hW)) (λx y W _=>qW x y W)).mono ?_
 rintro e w2 ⟨rfl,hb3⟩;have hk2:=Ht hk hb3;have hb4:=hb2.trans (hb3.mono hb2.size);have ag0:=ky (xx aK p) dB bs;generalize iP (xx aK p) dB bs=k2 at*;clear hb3 hb2 hk;obtain⟨c0,c1,f0,f1⟩:=hk2;by_cases h2:0<=k2
 ·go_wp2_with fail;refine ac5 (v:=xu (4,k2)) (by simp[results,results229,go_sem,c0,c1]) rfl ⟨by rw[HL.o,mF h1',ma h2],?_⟩;exact(hb4.setCell (p:=⟨w.heap.size,0,none⟩) aj _).setCell (p:=⟨w.heap.size,1,none⟩) aj _
 have h2':k2<0:=aa;go_wp2_with fail;refine ac5 (v:=xu (0,-1)) (by simp[results,results229,go_sem,c0,c1]) rfl ⟨by rw[HL.o,mF h1',mF h2'],?_⟩;exact(hb4.setCell (p:=⟨w.heap.size,0,none⟩) aj _).setCell (p:=⟨w.heap.size,1,none⟩) aj _
def Ka {p:Int}{bs:List aD}(h:lh p bs=true):∀x∈bs,bH p x=true:=by
 simp only[lh,Bool.and_eq_true,List.all_eq_true]at h;exact h.2
def yw {p:Int}{bs:List aD}(h:lh p bs=true):∀x∈bs,sG x:=λx hx=>by
 have:=Ka h x hx
 simp only[bH,Bool.and_eq_true,decide_eq_true_eq]at this
 exact⟨this.1.1.2,this.1.2⟩
def Oc {bs:List aD}(h:∀x∈bs,sG x)(k:Int)(hk:k<bs.length):0<=bC bs k/\bC bs k<=1099511627776:=by
 unfold bC;split;omega;have hlt:k.toNat<bs.length:=aa;have:=h (bs.getD k.toNat default) (by rw[aah,aaj hlt];exact List.getElem_mem hlt);exact this
def Od {p:Int}{bs:List aD}(h:lh p bs=true):0<=eP bs/\eP bs<=1099511627776:=Oc (yw h) _ (ky _ _ _).2
structure zL (w:acL)(bp br b0 bl bs bf:Nat)(aK:Bool)(p least:Int)(u v:acK):Prop where
 cp:w.cell? ⟨bp,0,none⟩=some (vi p)
 cr:w.cell? ⟨br,0,none⟩=some (acg aK)
 res:w.cell? ⟨b0,0,none⟩=some u/\w.cell? ⟨b0,1,none⟩=some v/\w.frozen? ⟨b0,0,none⟩=false/\w.frozen? ⟨b0,1,none⟩=false
 cl:w.cell? ⟨bl,0,none⟩=some (vi least)
 cs:w.cell? ⟨bs,0,none⟩=some (fn0 219)
 cf:w.cell? ⟨bf,0,none⟩=some (.func (.func 220) #[] #[pt br])
def zL.below {bp br b0 bl bs bf:Nat}{aK:Bool}{p least:Int}{v:acK}(h:zL w bp br b0 bl bs bf aK p least u v)(hb:acN w.heap.size w w1):zL w1 bp br b0 bl bs bf aK p least u v :=
 ⟨cell_below h.cp hb,cell_below h.cr hb,Ht h.res hb,cell_below h.cl hb,cell_below h.cs hb,cell_below h.cf hb⟩
def iQ {H:Nat}(v:acK)(T:TypeId)(hH:w.heap.size=H):(w.alloc (ach #[v] T)).cell? ⟨H,0,none⟩=some v:=by subst hH;simp
def Ao {H:Nat}(u v:acK)(T:TypeId)(hH:w.heap.size=H) :
  (w.alloc (ach #[u,v] T)).cell? ⟨H,0,none⟩=some u/\(w.alloc (ach #[u,v] T)).cell? ⟨H,1,none⟩=some v/\(w.alloc (ach #[u,v] T)).frozen? ⟨H,0,none⟩=false/\(w.alloc (ach #[u,v] T)).frozen? ⟨H,1,none⟩=false:=by subst hH;simp
def Aq (v:acK)(bs:List aD)(p:Int)(aK:Bool)(w:acL)(hrow:Row w v bs) :
  ac4 prog 200 #[v,vi p,acg aK] w λe w'=>e=ab4 (xu (vG bs p aK))/\acN w.heap.size w w':=by
 have HR:=az hrow;clear hrow;have hL:vG bs p aK=if lh p bs then
  jF (iP (λx=>iK x&&qV (eP bs) x) fH bs) 1
   (jF (iP (λx=>fullB aK x&&qV (eP bs) x&&decide (x.l<p)) dB bs) 2
    (jF (first (og (eP bs)) bs) 3
     (jF (iP (λx=>fullB aK x&&x.r==eP bs) dB bs) 2 (forcedL bs p aK)))) else (0,-1):=rfl
 have HL:=az hL;clear hL;go_in;go_wp2_with fail;have hb0:acN w.heap.size w (((w.alloc (ach #[vi p] 3)).alloc (ach #[acg aK] 4)).alloc (ach #[vi 0,vi 0] 229)) :=
  (ax.alloc ai _).alloc (by simp;omega) _
 refine(xq v bs p _ (HR.o.below hb0)).mono ?_;rintro e w1 ⟨rfl,hb1⟩;have hb1':=hb0.trans (hb1.mono hb0.size);have cp:w1.cell? ⟨w.heap.size,0,none⟩=some (vi p):=cell_below (aY (aY (iQ _ _ rfl) _) _) hb1;have cr:w1.cell? ⟨w.heap.size+1,0,none⟩=some (acg aK):=cell_below (aY (iQ _ _ ai) _) hb1;have res:=Ht (Ao (w:=(w.alloc (ach #[vi p] 3)).alloc (ach #[acg aK] 4)) (H:=w.heap.size+1+1) (vi 0) (vi 0) 229 ai) hb1;clear hb1 hb0;cases hr:lh p bs
 ·obtain⟨c0,c1,f0,f1⟩:=res;go_wp2_with fail;refine ac5 (v:=xu (0,-1)) (by simp[results,results200,go_sem,c0,c1]) rfl ⟨by rw[HL.o,hr];rfl,?_⟩;exact(hb1'.setCell (p:=⟨w.heap.size+1+1,0,none⟩) (by simp;omega) _).setCell (p:=⟨w.heap.size+1+1,1,none⟩) (by simp;omega) _
 have hlb:=Od hr;have HW:=az (yw hr);have HL2:Hid (vG bs p aK=jF (iP (λx=>iK x&&qV (eP bs) x) fH bs) 1
  (jF (iP (λx=>fullB aK x&&qV (eP bs) x&&decide (x.l<p)) dB bs) 2
   (jF (first (og (eP bs)) bs) 3
    (jF (iP (λx=>fullB aK x&&x.r==eP bs) dB bs) 2 (forcedL bs p aK))))):=by
  show _=_;rw[HL.o,hr];rfl
 clear HL hr;go_wp2_with fail;refine(DX v bs _ (HR.o.below hb1')).mono ?_;rintro e w2 ⟨rfl,hb2⟩;generalize eP bs=least at*;have hb2':=hb1'.trans (hb2.mono hb1'.size);obtain⟨W,hW⟩:∃W:acL,W=((w2.alloc (ach #[vi least] 3)).alloc (ach #[fn0 219] 211)).alloc (ach #[.func (.func 220) #[] #[pt (w.heap.size+1)]] 211):=⟨_,rfl⟩;have hb3:acN w2.heap.size w2 W:=by rw[hW];exact(ax.alloc ai _).alloc (by simp;omega) _
 have hE:zL W w.heap.size (w.heap.size+1) (w.heap.size+1+1) w2.heap.size (w2.heap.size+1) (w2.heap.size+1+1) aK p least (vi 0) (vi 0):=by
  refine⟨cell_below (cell_below cp hb2) hb3,cell_below (cell_below cr hb2) hb3,Ht (Ht res hb2) hb3,?_,?_,?_⟩;rw[hW];exact aY (aY (iQ _ _ rfl) _) _;rw[hW];exact aY (iQ _ _ ai) _;rw[hW];exact iQ _ _ ai
 have hb4:=hb2'.trans (hb3.mono hb2'.size);clear res cp cr hb1' hb2 hb3 hb2';go_wp2_with fail;rw[<-hW];clear hW;generalize w2.heap.size=bl at*;refine(mE 221 223 #[pt (bl+1),pt bl] #[] _ bs _ (λx=>iK x&&qV least x) fH (HR.o.below hb4) Rw Am
  (λx W' hx hW=>aao x least _ _ W' (hE.below hW).cs (hE.below hW).cl (HW.o x hx) hlb.1 hlb.2) (λx y W _=>Ak x y W)).mono ?_
 rintro e w3 ⟨rfl,hb5⟩;have hE3:=hE.below hb5;have hb6:=hb4.trans (hb5.mono hb4.size);have hbd:=ky (λx=>iK x&&qV least x) fH bs;generalize iP (λx=>iK x&&qV least x) fH bs=k1 at*;clear hb5 hb4 hE;by_cases h1:0<=k1
 ·have RJ:=az (HL2.o.trans (ma h1));obtain⟨c0,c1,f0,f1⟩:=hE3.res;go_wp2_with fail;refine ac5 (v:=xu (1,k1)) (by simp[results,results200,go_sem,c0,c1]) rfl ⟨by rw[RJ.o],?_⟩;exact(hb6.setCell (p:=⟨w.heap.size+1+1,0,none⟩) (by simp;omega) _).setCell (p:=⟨w.heap.size+1+1,1,none⟩) (by simp;omega) _
 have h1':k1<0:=aa;have RJ:=az (HL2.o.trans (mF h1'));clear HL2;go_wp2_with fail;refine(mE 224 225 #[pt (bl+1+1),pt bl,pt w.heap.size] #[] _ bs _ (λx=>fullB aK x&&qV least x&&decide (x.l<p)) dB (HR.o.below hb6) Rx nN
  (λx W' hx hW=>aap x least p aK _ _ _ _ W' (hE3.below hW).cf (hE3.below hW).cr (hE3.below hW).cl (hE3.below hW).cp (HW.o x hx) hlb.1 hlb.2) (λx y W _=>qW x y W)).mono ?_
 rintro e w4 ⟨rfl,tZ⟩;have hE4:=hE3.below tZ;have wT:=hb6.trans (tZ.mono hb6.size);have ag0:=ky (λx=>fullB aK x&&qV least x&&decide (x.l<p)) dB bs;generalize iP (λx=>fullB aK x&&qV least x&&decide (x.l<p)) dB bs=k2 at*;clear tZ hb6 hE3;by_cases h2:0<=k2
 ·have uf:=az (RJ.o.trans (ma h2));obtain⟨c0,c1,f0,f1⟩:=hE4.res;go_wp2_with fail;refine ac5 (v:=xu (2,k2)) (by simp[results,results200,go_sem,c0,c1]) rfl ⟨by rw[uf.o],?_⟩;exact(wT.setCell (p:=⟨w.heap.size+1+1,0,none⟩) (by simp;omega) _).setCell (p:=⟨w.heap.size+1+1,1,none⟩) (by simp;omega) _
 have h2':k2<0:=aa;have uf:=az (RJ.o.trans (mF h2'));clear RJ;go_wp2_with fail;refine(De 227 #[pt bl] _ bs _ (og least) (HR.o.below wT) Rz (λx W' hx hW=>aaq x least _ W' (hE4.below hW).cl)).mono ?_;rintro e w5 ⟨rfl,ME⟩;have hE5:=hE4.below ME;have RL:=wT.trans (ME.mono wT.size);have ame:=first_bd (og least) bs;generalize first (og least) bs=k3 at*
 clear ME wT hE4;by_cases h3:0<=k3
 ·have RN:=az (uf.o.trans (ma h3));obtain⟨c0,c1,f0,f1⟩:=hE5.res;go_wp2_with fail;refine ac5 (v:=xu (3,k3)) (by simp[results,results200,go_sem,c0,c1]) rfl ⟨by rw[RN.o],?_⟩;exact(RL.setCell (p:=⟨w.heap.size+1+1,0,none⟩) (by simp;omega) _).setCell (p:=⟨w.heap.size+1+1,1,none⟩) (by simp;omega) _
 have h3':k3<0:=aa;have RN:=az (uf.o.trans (mF h3'));clear uf;go_wp2_with fail;refine(mE 228 225 #[pt (bl+1+1),pt bl] #[] _ bs _ (λx=>fullB aK x&&x.r==least) dB (HR.o.below RL) RG nN
  (λx W' hx hW=>aar x least aK _ _ _ W' (hE5.below hW).cf (hE5.below hW).cr (hE5.below hW).cl) (λx y W _=>qW x y W)).mono ?_
 rintro e w6 ⟨rfl,aau⟩;have hE6:=hE5.below aau;have Hu:=RL.trans (aau.mono RL.size);have amf:=ky (λx=>fullB aK x&&x.r==least) dB bs;generalize iP (λx=>fullB aK x&&x.r==least) dB bs=k4 at*;clear aau RL hE5;by_cases h4:0<=k4
 ·have HL6:=az (RN.o.trans (ma h4));obtain⟨c0,c1,f0,f1⟩:=hE6.res;go_wp2_with fail;refine ac5 (v:=xu (2,k4)) (by simp[results,results200,go_sem,c0,c1]) rfl ⟨by rw[HL6.o],?_⟩;exact(Hu.setCell (p:=⟨w.heap.size+1+1,0,none⟩) (by simp;omega) _).setCell (p:=⟨w.heap.size+1+1,1,none⟩) (by simp;omega) _
 have h4':k4<0:=aa;have HL6:=az (RN.o.trans (mF h4'));have cs:=hE6.cs;clear RN;go_wp2_with fail;refine(forced_any v bs p aK _ _ _ _ (HR.o.below Hu) hE6.cf hE6.cr hE6.cp).mono ?_;rintro e w7 ⟨rfl,aaw⟩;obtain⟨c0,c1,f0,f1⟩:=(hE6.below aaw).res;have ag2:=Hu.trans (aaw.mono Hu.size);clear aaw Hu hE6 cs;generalize hfo:forcedL bs p aK=r at*;clear hfo;go_wp2_with fail;refine ac5 (v:=xu r) (by simp[results,results200,go_sem,c0,c1]) rfl ⟨by rw[HL6.o],?_⟩;exact(ag2.setCell (p:=⟨w.heap.size+1+1,0,none⟩) (by simp;omega) _).setCell (p:=⟨w.heap.size+1+1,1,none⟩) (by simp;omega) _
end gcs
open RowKit
abbrev ptr (k:Nat):acK:=.pointer (some ⟨k,0,none⟩)
variable{aA:Nat}{w:acL}{k:Nat}{M:dA}
def ET (h:aT aA w k M):ac4 prog 81 #[ptr k] w λe w'=>e=ab4 (acg (!M.down))/\w'=w:=by
 obtain⟨c0,c1,c2,c3,c4,c5,c6,c7,c8⟩:=h.cells;clear h c0 c1 c2 c3 c4 c5 c7 c8;go_in;go_wp2;go_ret;exact⟨rfl,rfl⟩
def iZ (h:aT aA w k M):ac4 prog 82 #[ptr k] w λe w'=>e=ab4 (.agg #[vi M.B,vi M.P,vi M.S])/\acN w.heap.size w w':=by
 obtain⟨c0,c1,c2,c3,c4,c5,c6,c7,c8⟩:=h.cells;have hk:=h.aW.lt;clear h c3 c4 c5 c6 c7 c8;go_in;go_wp2;exact ac5 (v:=.agg #[vi M.B,vi M.P,vi M.S]) (by simp[results,results82,go_sem]) rfl ⟨rfl,ax⟩
def full_any (h:aT aA w k M)(hS:M.S<=512):ac4 prog 132 #[ptr k] w λe w'=>e=ab4 (vi (M.S+32:Nat))/\w'=w:=by
 obtain⟨c0,c1,c2,c3,c4,c5,c6,c7,c8⟩:=h.cells;clear h c0 c1 c3 c4 c5 c6 c7 c8;go_in;go_wp2;go_ret;exact⟨by go_num,rfl⟩
def fC (M:dA)(j:Int):Bool:=decide (0<=j/\j<M.bs.length)
def dP (h:aT aA w k M)(j:Int):ac4 prog 119 #[ptr k,vi j] w λe w'=>e=ab4 (acg (fC M j))/\w'=w:=by
 obtain⟨c0,c1,c2,c3,c4,c5,c6,c7,c8⟩:=h.cells;clear h c0 c1 c2 c4 c5 c6 c7 c8;by_cases h0:0<=j
 ·by_cases h1:j<M.bs.length
  ·have H:=az (show fC M j=true by simp[fC,h0,h1]);go_in;go_wp2;go_ret;exact⟨aU (by rw[H.o]),rfl⟩
  have H:=az (show fC M j=false by simp[fC];omega);go_in;go_wp2;go_ret;exact⟨aU (by rw[H.o]),rfl⟩
 have H:=az (show fC M j=false by simp[fC];omega);go_in;go_wp2;go_ret;exact⟨aU (by rw[H.o]),rfl⟩
def cu (h:aT aA w k M)(hB:M.bs.length=M.B)(j p:Int):ac4 prog 120 #[ptr k,vi j,vi p] w λe w'=>e=ab4 (vi (NP.asked M.view j p))/\w'=w:=by
 obtain⟨c0,c1,c2,c3,c4,c5,c6,c7,c8⟩:=h.cells;have HC:=az h;clear h c0 c2 c3 c4 c5 c7 c8;obtain⟨B,P,S,kb,kc,bs,fa,fs,fc,since,down,dQ,reads⟩:=M;dsimp only at c1 c6 hB;cases down
 ·by_cases hj:0<=j/\j<B
  ·have ht:Hid (fC _ j=true):=az (show fC ⟨B,P,S,kb,kc,bs,fa,fs,fc,since,false,dQ,reads⟩ j=true by simp[fC,hj,hB]);by_cases hp0:0<=p
   ·by_cases hp1:p<P
    ·have H:=az (show NP.asked (dA.view ⟨B,P,S,kb,kc,bs,fa,fs,fc,since,false,dQ,reads⟩) j p=0 by simp[NP.asked,dA.view,hj,hp0,hp1]);clear hj hB;go_in;go_wp2_with fail;refine(dP HC.o j).mono ?_;rintro e w' ⟨rfl,rfl⟩;rw[ht.o];go_wp2;go_ret;exact⟨bS H.o.symm,rfl⟩
    have H:=az (show NP.asked (dA.view ⟨B,P,S,kb,kc,bs,fa,fs,fc,since,false,dQ,reads⟩) j p=12 by simp[NP.asked,dA.view,hp1]);clear hj hB;go_in;go_wp2_with fail;refine(dP HC.o j).mono ?_;rintro e w' ⟨rfl,rfl⟩;rw[ht.o];go_wp2;go_ret;exact⟨bS H.o.symm,rfl⟩
   have H:=az (show NP.asked (dA.view ⟨B,P,S,kb,kc,bs,fa,fs,fc,since,false,dQ,reads⟩) j p=12 by simp[NP.asked,dA.view,hp0]);clear hj hB;go_in;go_wp2_with fail;refine(dP HC.o j).mono ?_;rintro e w' ⟨rfl,rfl⟩;rw[ht.o];go_wp2;go_ret;exact⟨bS H.o.symm,rfl⟩
  have ht:Hid (fC _ j=false):=az (show fC ⟨B,P,S,kb,kc,bs,fa,fs,fc,since,false,dQ,reads⟩ j=false by simp[fC,hB];omega);have H:=az (show NP.asked (dA.view ⟨B,P,S,kb,kc,bs,fa,fs,fc,since,false,dQ,reads⟩) j p=12 by simp[NP.asked,dA.view];omega);clear hj hB;go_in;go_wp2_with fail;refine(dP HC.o j).mono ?_;rintro e w' ⟨rfl,rfl⟩;rw[ht.o];go_wp2;go_ret;exact⟨bS H.o.symm,rfl⟩
 have H:=az (show NP.asked (dA.view ⟨B,P,S,kb,kc,bs,fa,fs,fc,since,true,dQ,reads⟩) j p=4 by simp[NP.asked,dA.view]);go_in;go_wp2;go_ret;exact⟨bS H.o.symm,rfl⟩
namespace mgr
open RowKit
def aN (state:Int)(bs:List gcs.aD):Nat:=(bs.filter (λx=>x.s==state)).length
def oh (state:Int)(bs:List gcs.aD):aN state bs<=bs.length:=List.length_filter_le _ _
def Hw (state:Int)(bs:List gcs.aD)(k:Nat)(h:k<bs.length):aN state (bs.take (k+1))=aN state (bs.take k)+(if (bs.getD k default).s==state then 1 else 0):=by
 unfold aN;rw[List.take_succ_eq_append_getElem h,List.filter_append,acZ,aah,aaj h];cases hs:(bs[k].s==state)<;>simp[hs]
def DY (v:acK)(bs:List gcs.aD)(state:Int)(w:acL)(hrow:gcs.Row w v bs) :
  ac4 prog 166 #[v,vi state] w λe w'=>e=ab4 (vi (aN state bs))/\acN w.heap.size w w':=by
 have HR:=az hrow;obtain⟨hlen,a,cap,rfl,-⟩:=hrow;go_in;go_wp2_with fail;go_loopw [5,10] (λn i wr=>∃k:Nat,k<=bs.length/\i=vi k/\n=vi (aN state (bs.take k))/\acN w.heap.size w wr) (λ_ i _=>bs.length-(intOf i).toNat)
 case atStart=>exact⟨0,aaW _,rfl,rfl,ak⟩
 case round =>
  obtain⟨k,hk,rfl,rfl,hb⟩:=hrel;by_cases hlt:k<bs.length
  ·obtain⟨b,o,rfl,hx⟩:=(HR.o.below hb).lookup hlt;have hst:=Hw state bs k hlt;have hle:aN state (bs.take k)<=k:=Nat.le_trans (oh _ _) (by simp;omega);generalize bs.getD k default=x at hx hst;generalize aN state (bs.take k)=c at hst hle ⊢;obtain⟨g0,g1,g2,g3⟩:=hx;have Hst:=az hst;clear hst;cases hs:(x.s==state);all_goals
    go_wp2;go_roundw
    case rel=>exact⟨k+1,aa,by go_num,by rw[Hst.o,hs];simp,hb.alloc hb.size _⟩
    case measure=>simp[intOf];omega
  go_wp2;go_ret;obtain rfl:k=bs.length:=aa;exact⟨bS (by rw[List.take_length]),hb⟩
structure iL where
 k:Nat
 l:List gcs.aD
 gl:Nat
 cl:Nat
 at_:Int
 aC:Int
 bad:Int
 even:Bool
abbrev iL.cs (G:iL):Array acK:=#[ptr G.k,aco (some ⟨G.gl,0,none⟩) G.l.length G.cl,vi G.at_,vi G.aC,vi G.bad,acg G.even]
abbrev gQ (b:gcs.aD):List acK:=[vi b.s,vi b.l,vi b.r,vi b.n]
def gT (b:gcs.aD):(gQ b).length=4:=rfl
def iL.foot (G:iL)(m n:Nat):Prop:=n=m\/n=G.gl
structure kL (aA:Nat)(w:acL)(m:Nat)(G:iL):Prop where
 mgr:aD w m 191 G.cs
 row:kY w 193 4 G.gl G.l.length G.cl (G.l.flatMap gQ)
 low:∀n,G.foot m n->aA<=n
variable{w':acL}{m:Nat}{G:iL}
def kL.mine (h:kL aA w m G):∀n,G.foot m n->Mine aA w n:=by
 intro n hn;refine⟨h.low n hn,?_⟩;rcases hn with rfl|rfl;exact⟨_,_,ag,h.mgr⟩;obtain⟨cur,hb,_⟩:=h.row.blk;exact⟨_,_,ag,hb⟩
def kL.aJ {F:Nat->Prop}(h:kL aA w m G)(q:aP F w w')(hn:∀n,G.foot m n->¬F n):kL aA w' m G :=
 ⟨h.mgr.aJ q (hn _ (ack rfl)),h.row.aJ q (hn _ (acm rfl)),h.low⟩
def kL.old (h:kL aA w m G)(q:acN w.heap.size w w'):kL aA w' m G:=h.aJ (F:=λ_=>False) (aP.of_below q) (λ_ _ e=>e)
variable{i j:Nat}
def kL.cell (h:kL aA w m G)(hi:i<G.l.length)(hj:j<4):w.cell? ⟨G.gl,i*4+j,none⟩=(gQ (G.l.getD i default))[j]?:=by
 rw[h.row.cell aa];exact flat_get gT default _ _ _ hi hj
def kL.grow (h:kL aA w m G):gcs.Row w (aco (some ⟨G.gl,0,none⟩) G.l.length G.cl) G.l:=by
 obtain⟨cur,_,h1,h2,_⟩:=h.row.blk;refine⟨by unfold maxLen at h2;omega,_,_,rfl,acm ⟨G.gl,0,rfl,λi hi=>?_⟩⟩;have h0:=h.cell hi (j:=0) ag;have h1:=h.cell hi (j:=1) ag;have h2:=h.cell hi (j:=2) ag;have h3:=h.cell hi (j:=3) ag;rw[Nat.zero_add];exact⟨h0,h1,h2,h3⟩
def field_g1 (x y z:Int)(w:acL):(Instr.field 103 (.agg #[vi x,vi y,vi z]) 1).run prog w=.ok (vi y) w:=ah
def om (h:kL aA w m G)(hc:aT aA w G.k M):ac4 prog 201 #[ptr m] w λe w'=>e=ab4 (vi M.P)/\acN w.heap.size w w':=by
 have c0:w.cell? ⟨m,0,none⟩=some (ptr G.k):=h.mgr.cell 0;have HC:=az hc;clear h hc;go_in;go_wp2_with fail;refine(iZ HC.o).mono ?_;rintro e w' ⟨rfl,hb⟩;have HB:=az hb;have hf:=field_g1;clear hb c0;go_wp2;go_ret;exact⟨rfl,HB.o⟩
def mG (h:kL aA w m G):ac4 prog 198 #[ptr m] w λe w'=>e=ab4 (vi (aN 0 G.l))/\acN w.heap.size w w':=by
 have c1:w.cell? ⟨m,1,none⟩=some (aco (some ⟨G.gl,0,none⟩) G.l.length G.cl):=h.mgr.cell 1;have H:=az h;clear h;go_in;go_wp2_with fail;refine(DY _ _ 0 w H.o.grow).mono ?_;rintro e w' ⟨rfl,hb⟩;have HB:=az hb;clear hb c1;go_wp2;go_ret;exact⟨rfl,HB.o⟩
def Hy (h:kL aA w m G):ac4 prog 142 #[ptr m] w λe w'=>e=ab4 (vi (wrap64 (G.aC-wrap64 ((aN 4 G.l:Nat)-G.bad))))/\acN w.heap.size w w':=by
 have c1:=Sub.cell (show w.cell? ⟨m,1,none⟩=some (aco (some ⟨G.gl,0,none⟩) G.l.length G.cl) from h.mgr.cell 1);have c3:=Sub.cell (show w.cell? ⟨m,3,none⟩=some (vi G.aC) from h.mgr.cell 3);have c4:=Sub.cell (show w.cell? ⟨m,4,none⟩=some (vi G.bad) from h.mgr.cell 4);have HCO:Hid (∀n:Sub w,ac4 prog 166 #[aco (some ⟨G.gl,0,none⟩) G.l.length G.cl,vi 4] n.w λe w'=>e=ab4 (vi (aN 4 G.l))/\acN n.w.heap.size n.w w'):=az (λn=>DY _ _ 4 n.w (h.old n.below).grow);clear h;go_in;go_upto_region 3 with fail;refine aZ ah ah ?_;repeat (go_big_quiet_step (exact fM (HCO.o _)))
 refine wpQuiet_nil ?_;rintro _ ⟨nq,rfl⟩;have Ar:=az nq.below;go_wp2;go_ret;exact⟨ai,Ar.o⟩
def bT (G:iL)(P:Nat):Int:=(aN 0 G.l:Nat)*(P:Int)+(if G.at_= -1 then 0 else (P:Int)-(G.l.getD G.at_.toNat default).n)
def iL.fit (G:iL)(P:Nat):Prop:=G.l.length<=128/\P<=32/\(G.at_= -1\/∃i:Nat,G.at_=i/\i<G.l.length/\0<=(G.l.getD i default).n/\(G.l.getD i default).n<=P)
def fP (h:kL aA w m G)(hc:aT aA w G.k M)(hf:G.fit M.P):ac4 prog 195 #[ptr m] w λe w'=>e=ab4 (vi (bT G M.P))/\acN w.heap.size w w':=by
 obtain⟨hl,hP,hat⟩:=hf;have H:=az h;have HC:=az hc;have hcl:=oh 0 G.l;have HQ:Hid (bT G M.P=(aN 0 G.l:Nat)*(M.P:Int)+(if G.at_= -1 then 0 else (M.P:Int)-(G.l.getD G.at_.toNat default).n)):=az rfl;have HAT:=az hat;have hmul:aN 0 G.l*M.P<=4096:=Nat.le_trans (Nat.mul_le_mul (Nat.le_trans hcl hl) hP) ag;have hmc:((aN 0 G.l:Nat):Int)*(M.P:Int)=((aN 0 G.l*M.P:Nat):Int):=by rw[Int.natCast_mul]
 have q1:IntKind.i64.wrap (((aN 0 G.l:Nat):Int)*(M.P:Int))=((aN 0 G.l:Nat):Int)*(M.P:Int):=IntWalk.i64_in _ (by rw[hmc];omega);have HMC:=az hmc;clear h hc hat hmc;go_in;go_wp2_with fail;refine(mG H.o).mono ?_;rintro e w1 ⟨rfl,hb1⟩;have H1:=az (H.o.old hb1);have yx:=az (HC.o.old hb1);have HB1:=az hb1;clear hb1;go_wp2_with fail;refine(om H1.o yx.o).mono ?_;rintro e w2 ⟨rfl,hb2⟩;have H2:=az (H1.o.old hb2);have JQ:=az (yx.o.old hb2);have HB2:=az (HB1.o.trans (hb2.mono HB1.o.size));have c2:w2.cell? ⟨m,2,none⟩=some (vi G.at_):=H2.o.mgr.cell 2;clear hb2
 generalize aN 0 G.l=c at*;rcases HAT.o with e0|⟨i,e0,hi,hn0,hn1⟩
 ·rw[if_pos e0,Int.add_zero]at HQ;rw[e0]at c2;have hne:((-1:Int) != -1)=false:=ag;go_wp2;go_ret;exact⟨bS HQ.o.symm,HB2.o⟩
 have hne:((i:Int) != -1)=true:=by simp only[bne_iff_ne,ne_eq];omega
 rw[if_neg aa,e0,acW]at HQ;rw[e0]at c2;have d3:w2.cell? ⟨G.gl,i*4+3,none⟩=some (vi (G.l.getD i default).n):=H2.o.cell hi (j:=3) ag;have c1:w2.cell? ⟨m,1,none⟩=some (aco (some ⟨G.gl,0,none⟩) G.l.length G.cl):=H2.o.mgr.cell 1;generalize (G.l.getD i default).n=nx at*;have hi0:(0:Int)<=(i:Int):=aa;have hi1:(i:Int)<(G.l.length:Int):=aa;have q2:IntKind.i64.wrap ((M.P:Int)-nx)=(M.P:Int)-nx:=IntWalk.i64_in _ aa;have q3:IntKind.i64.wrap ((c:Int)*(M.P:Int)+((M.P:Int)-nx))=(c:Int)*(M.P:Int)+((M.P:Int)-nx):=IntWalk.i64_in _ (by rw[HMC.o];omega);have Oe:Hid (∀n:Sub w2,ac4 prog 201 #[ptr m] n.w λe w'=>e=ab4 (vi M.P)/\acN n.w.heap.size n.w w'):=az (λn=>om (H2.o.old n.below) (JQ.o.old n.below))
 go_upto_region 5 with fail;have c1:=Sub.cell c1;have c2:=Sub.cell c2;have d3:=Sub.cell d3;refine aZ ah ah ?_;repeat (go_big_quiet_step (exact fM (Oe.o _)))
 refine wpQuiet_nil ?_;rintro _ ⟨nq,rfl⟩;have Ar:=az (HB2.o.trans (nq.below.mono HB2.o.size));go_wp2;go_ret;exact⟨bS HQ.o.symm,Ar.o⟩
structure Mg where
 l:List gcs.aD
 at_:Int
 aC:Int
 bad:Int
 even:Bool
abbrev Mg.blk (g:Mg)(i:Nat):gcs.aD:=g.l.getD i default
def dH (x:gcs.aD):gcs.aD:={x with s:=if x.l=0 then 3 else 2}
def Mg.shut (g:Mg)(i:Nat):Mg:={g with at_:=if (i:Int)=g.at_ then -1 else g.at_}
def Mg.put (g:Mg)(i:Nat)(x:gcs.aD):Mg:={g with l:=g.l.set i x}
def Mg.close (g:Mg)(i:Nat):Mg:=(g.put i (dH (g.blk i))).shut i
def freeB (x:gcs.aD):Bool:=x.s==0
def Mg.freeI (g:Mg):Int:=gcs.iP freeB gcs.fH g.l
def Mg.gU (g:Mg)(i:Nat):Mg:={g.put i ⟨1,0,(g.blk i).r,0⟩ with at_:=i}
def Mg.begun (g:Mg):Mg:=if g.freeI<0 then g else g.gU g.freeI.toNat
def Mg.there (g:Mg)(k:Int):Bool:=decide (0<=k)&&decide (k<g.l.length)&&(g.blk k.toNat).s != 4
def Mg.drop (g:Mg)(k:Int):Int×Mg :=
 if g.there k=false\/(g.blk k.toNat).l=0 then (1,g)
 else
  let x:=g.blk k.toNat
  (0,g.put k.toNat {x with l:=x.l-1,s:=if x.s=2/\x.l-1=0 then 3 else x.s})
def Mg.progTo (b:List Nat):Nat->NP.bX->Mg->(Int×Int×Int)×NP.bX×Mg
 |0,c,g=>((0,0,40),c,g)
 |n+1,c,g0 =>
  let g:=if g0.at_= -1 then g0.begun else g0
  if g.at_= -1 then ((0,0,40),c,g)
  else
   let i:=g.at_.toNat
   let x:=g.blk i
   let r:=NP.program c i x.n b
   if r.1=10 then Mg.progTo b n r.2 (g.close i)
   else if r.1=0 then
    let g1:=g.put i {x with n:=x.n+1,l:=x.l+1}
    ((i,x.n,0),r.2,if x.n+1=c.P then g1.close i else g1)
   else if r.1=11 then ((i,x.n,11),r.2,g.close i)
   else ((0,0,r.1),r.2,g)
def Mg.program (b:List Nat)(c:NP.bX)(g:Mg):(Int×Int×Int)×NP.bX×Mg :=
 if c.down then ((0,0,4),c,g)
 else if b.length≠c.full then ((0,0,1),c,g)
 else Mg.progTo b (aN 0 g.l+2) c g
def Mg.idle (c:NP.bX)(g:Mg)(k:Int):Int:=if c.down then 4 else if g.there k=false\/0<(g.blk k.toNat).l then 1 else 0
def Mg.gone (c:NP.bX)(g:Mg)(k:Nat):Int×NP.bX×Mg :=
 let r:=NP.mark c k
 if r.1=0 then (0,r.2,(g.put k ⟨4,0,NP.bC r.2 k,0⟩).shut k) else (r.1,r.2,g)
def Mg.erase (c:NP.bX)(g:Mg)(k:Int):Int×NP.bX×Mg :=
 let e:=g.idle c k
 if e≠0 then (e,c,g)
 else
  let i:=k.toNat
  let x:=g.blk i
  if x.s=1/\0<x.n then (1,c,g)
  else
   let r:=NP.erase c k
   let g1:=g.put i {x with r:=NP.bC r.2 k}
   if r.1=0 then (0,r.2,(g1.put i ⟨0,0,NP.bC r.2 k,0⟩).shut i)
   else if r.1=11 then (11,(Mg.gone r.2 g1 i).2)
   else (r.1,r.2,g1)
structure Mg.ok (c:NP.bX)(g:Mg):Prop where
 len:g.l.length=c.B
 QO:∀x∈g.l,0<=x.s/\x.s<=4/\0<=x.l/\x.l<=c.P/\0<=x.n/\x.n<=c.P
 none_:∀x∈g.l,x.s≠1->x.s≠2->x.l=0
 open_:∀x∈g.l,x.s=1->x.l<=x.n/\x.n<c.P
 QP:g.at_= -1\/∃i:Nat,g.at_=i/\i<g.l.length/\(g.blk i).s=1
 at2:∀i:Nat,i<g.l.length->(g.blk i).s=1->g.at_=i
section
variable{c c':NP.bX}{g:Mg}
def dG {l:List gcs.aD}(h:i<l.length):l.getD i default∈l:=NP.bL h
def il (l:List gcs.aD)(i j:Nat)(x:gcs.aD)(h:i<l.length):(l.set i x).getD j default=if i=j then x else l.getD j default:=NP.iO l default x i j h
def Mg.ok.aW (h:g.ok c)(h1:c'.B=c.B)(h2:c'.P=c.P):g.ok c' :=
 ⟨by rw[h1];exact h.len,by rw[h2];exact h.QO,h.none_,by rw[h2];exact h.open_,h.QP,h.at2⟩
def Mg.ok.lay (h:g.ok c)(hi:i<g.l.length)(x:gcs.aD)(h1:0<=x.s/\x.s<=4/\0<=x.l/\x.l<=c.P/\0<=x.n/\x.n<=c.P)(h2:x.s≠1->x.s≠2->x.l=0)(h3:x.s=1->x.l<=x.n/\x.n<c.P)
  (a:Int) (h4:x.s=1->(g.at_= -1\/g.at_=i)/\a=i) (h5:x.s≠1->a=if (i:Int)=g.at_ then -1 else g.at_):({g with l:=g.l.set i x,at_:=a}:Mg).ok c:=by
 have hm:∀y∈g.l.set i x,y=x\/y∈g.l:=λy hy=>(List.mem_or_eq_of_mem_set hy).symm
 refine⟨(abZ ..).trans h.len,?_,?_,?_,?_,?_⟩;intro y hy;rcases hm y hy with rfl|hy;exact h1;exact h.QO y hy;intro y hy;rcases hm y hy with rfl|hy;exact h2;exact h.none_ y hy;intro y hy;rcases hm y hy with rfl|hy;exact h3;exact h.open_ y hy;dsimp only[Mg.blk];by_cases e:x.s=1;exact acm ⟨i,(h4 e).2,by rw[abZ];exact hi,by rw[il _ _ _ _ hi,if_pos rfl];exact e⟩;rw[h5 e];by_cases e2:(i:Int)=g.at_;rw[if_pos e2];exact ack rfl;rw[if_neg e2];rcases h.QP with e3|⟨j,e3,hj,hs⟩;exact ack e3;exact acm ⟨j,e3,by rw[abZ];exact hj,by rw[il _ _ _ _ hi,if_neg (by intro e4;subst e4;exact e2 e3.symm)];exact hs⟩
 dsimp only[Mg.blk];intro j hj hs;rw[abZ]at hj;rw[il _ _ _ _ hi]at hs;by_cases e:i=j;subst e;rw[if_pos rfl]at hs;exact(h4 hs).2;rw[if_neg e]at hs;have e3:=h.at2 j hj hs;by_cases e1:x.s=1;rcases (h4 e1).1 with e4|e4<;>omega;rw[h5 e1,if_neg aa];exact e3
def Mg.ok.close (h:g.ok c)(hi:i<g.l.length):(g.close i).ok c:=by
 obtain⟨h1,h2,h3,h4,h5,h6⟩:=h.QO (g.blk i) (dG hi);refine h.lay hi (dH (g.blk i)) ?_ ?_ ?_ _ ?_ (λ_=>rfl);unfold dH;dsimp only;split<;>omega;unfold dH;dsimp only;split<;>omega;unfold dH;dsimp only;split<;>omega;unfold dH;dsimp only;split<;>omega
def Mg.ok.gU (h:g.ok c)(hi:i<g.l.length)(hP:0<c.P)(ha:g.at_= -1):(g.gU i).ok c :=
 h.lay hi ⟨1,0,(g.blk i).r,0⟩ (by dsimp only;omega) (by dsimp only;omega) (by dsimp only;omega) _ (λ_=>⟨ack ha,rfl⟩) (λe=>(e rfl).elim)
def Mg.freeI_lt (g:Mg):g.freeI<g.l.length:=(gcs.ky _ _ _).2
def Mg.ok.begun (h:g.ok c)(hP:0<c.P)(ha:g.at_= -1):g.begun.ok c:=by
 unfold Mg.begun;split;exact h;exact h.gU (by have:=g.freeI_lt;omega) hP ha
def Au (P:gcs.aD->Bool)(Q:gcs.aD->gcs.aD->Bool)(bs:List gcs.aD):∀k:Nat,0<=gcs.bestTo P Q bs k->P (bs.getD (gcs.bestTo P Q bs k).toNat default)=true
 |0,h=>by simp[gcs.bestTo]at h
 |k+1,h=>by
  unfold gcs.bestTo at h ⊢
  split
  rename_i hc
  simp only[Bool.and_eq_true]at hc
  exact hc.1
  rename_i hc
  rw[if_neg hc]at h
  exact Au P Q bs k h
def Mg.freeI_free (h:0<=g.freeI):(g.blk g.freeI.toNat).s=0:=by
 have:=Au freeB gcs.fH g.l g.l.length h;exact of_decide_eq_true this
end
abbrev iL.view (G:iL):Mg:=⟨G.l,G.at_,G.aC,G.bad,G.even⟩
abbrev iL.lay (G:iL)(g:Mg):iL:={G with l:=g.l,at_:=g.at_,aC:=g.aC,bad:=g.bad,even:=g.even}
def foot1 (m:Nat)(G:iL)(M:dA)(n:Nat):Prop:=G.foot m n\/M.foot G.k n
structure Held (aA:Nat)(w:acL)(m:Nat)(G:iL)(M:dA):Prop where
 mgr:kL aA w m G
 aW:aT aA w G.k M
structure bJ (aA:Nat)(w:acL)(m:Nat)(G:iL)(M:dA)(w':acL)(g':Mg)(M':dA):Prop where
 at_:Held aA w' m (G.lay g') M'
 aJ:aP (foot1 m G M) w w'
 foot:∀n,M'.foot G.k n->M.foot G.k n\/w.heap.size<=n
variable{w'':acL}{M' M'':dA}{g' g'':Mg}
def Held.apart (h:Held aA w m G M):∀n,G.foot m n->¬M.foot G.k n:=by
 have hm:=h.mgr.mgr;obtain⟨cur,hr,_⟩:=h.mgr.row.blk;intro n hn hc;have key:∀t cs,aD w n t cs->t=191\/t=193->False:=by
  intro t cs hb ht;have hT:∀t' cs',aD w n t' cs'->t'=t:=by
   intro t' cs' hb';unfold aD at hb hb';rw[hb]at hb';injection hb' with hb';injection hb' with _ hb';exact hb'.symm
  rcases hc with rfl|rfl|hc;have:=hT _ _ h.aW.aW;rcases ht with rfl|rfl<;>exact absurd this ag;obtain⟨cur',hb',_⟩:=h.aW.blocks.blk;have:=hT _ _ hb';rcases ht with rfl|rfl<;>exact absurd this ag;obtain⟨x,hx,rfl⟩:=List.mem_map.1 hc;obtain⟨cur',hb',_⟩:=(h.aW.pages x hx).blk;have:=hT _ _ hb';rcases ht with rfl|rfl<;>exact absurd this ag
 rcases hn with rfl|rfl;exact key _ _ hm (ack rfl);exact key _ _ hr (acm rfl)
def Held.ne (h:Held aA w m G M):m≠G.gl:=by
 intro e;exact h.mgr.row.dM h.mgr.mgr ag e.symm
def Held.mine (h:Held aA w m G M):∀n,foot1 m G M n->Mine aA w n:=by
 intro n hn;rcases hn with hn|hn;exact h.mgr.mine n hn;exact h.aW.mine n hn
def Held.lt (h:Held aA w m G M):∀n,foot1 m G M n->n<w.heap.size:=by
 intro n hn;obtain⟨_,t,cs,_,hb⟩:=h.mine n hn;exact hb.lt
def Held.old (h:Held aA w m G M)(q:acN w.heap.size w w'):Held aA w' m G M:=⟨h.mgr.old q,h.aW.old q⟩
def bJ.refl (h:Held aA w m G M):bJ aA w m G M w G.view M:=⟨h,aP.refl _ _,λ_ e=>ack e⟩
def bJ.trans (h:bJ aA w m G M w' g' M')(q:bJ aA w' m (G.lay g') M' w'' g'' M''):bJ aA w m G M w'' g'' M'':=by
 refine⟨q.at_,h.aJ.trans q.aJ λn hn e=>?_,λn hn=>?_⟩;rcases e with e|e;exact ack e;rcases h.foot n e with h1|h1;exact acm h1;omega;rcases q.foot n hn with h1|h1;exact h.foot n h1;exact acm (Nat.le_trans h.aJ.size h1)
def bJ.old (h:bJ aA w m G M w' g' M')(q:acN w'.heap.size w' w''):bJ aA w m G M w'' g' M':=⟨h.at_.old q,h.aJ.below q,h.foot⟩
def bJ.aX (h:Held aA w m G M)(q:acN w.heap.size w w'):bJ aA w m G M w' G.view M:=(bJ.refl h).old q
def Held.jG (h:Held aA w m G M)(q:Goes aA w G.k M w' M'):bJ aA w m G M w' G.view M':=by
 refine⟨⟨?_,q.at_⟩,q.aJ.mono (λn _ e=>acm e),q.foot⟩;exact h.mgr.aJ q.aJ (λn e=>h.apart n e)
def Held.field (h:Held aA w m G M)(j:Nat)(v:acK)(g':Mg)(hc:(G.lay g').cs=G.cs.setIfInBounds j v)(hl:g'.l=G.l):bJ aA w m G M (w.setCell ⟨m,j,none⟩ v) g' M:=by
 have hq:aP (λn=>n=m) w (w.setCell ⟨m,j,none⟩ v):=aP.set (F:=λn=>n=m) w (p:=⟨m,j,none⟩) rfl v;refine⟨⟨⟨?_,?_,?_⟩,?_⟩,hq.mono (λn _ e=>ack (ack e)),λn e=>ack e⟩;rw[hc];exact h.mgr.mgr.bB j v;dsimp only[iL.lay];rw[hl];exact h.mgr.row.aJ hq (λe=>h.ne e.symm);exact λn hn=>h.mgr.low n hn
 exact h.aW.aJ hq (λn e=>h.mgr.mine n (ack e)) (λn hn e=>h.apart n (ack e) hn)
def Held.cell (h:Held aA w m G M)(hi:i<G.l.length)(hj:j<4)(v:acK)(y:gcs.aD)(hy:gQ y=(gQ (G.l.getD i default)).set j v):bJ aA w m G M (w.setCell ⟨G.gl,i*4+j,none⟩ v) (G.view.put i y) M:=by
 have hq:aP (λn=>n=G.gl) w (w.setCell ⟨G.gl,i*4+j,none⟩ v):=aP.set (F:=λn=>n=G.gl) w (p:=⟨G.gl,i*4+j,none⟩) rfl v;refine⟨⟨⟨?_,?_,?_⟩,?_⟩,hq.mono (λn _ e=>ack (acm e)),λn e=>ack e⟩;have:=h.mgr.mgr.aJ hq (λe=>h.ne e);simpa[iL.cs,Mg.put] using this;dsimp only[iL.lay,Mg.put,iL.view];rw[abZ,<-flat_set gT default _ _ _ y v hi hj hy];exact h.mgr.row.set _ v;exact λn hn=>h.mgr.low n hn
 exact h.aW.aJ hq (λn e=>h.mgr.mine n (acm e)) (λn hn e=>h.apart n (acm e) hn)
def Held.block (h:Held aA w m G M)(hi:i<G.l.length)(y:gcs.aD) :
  bJ aA w m G M ((((w.setCell ⟨G.gl,i*4,none⟩ (vi y.s)).setCell ⟨G.gl,i*4+1,none⟩ (vi y.l)).setCell ⟨G.gl,i*4+2,none⟩ (vi y.r)).setCell ⟨G.gl,i*4+3,none⟩ (vi y.n)) (G.view.put i y) M:=by
 have e:∀z,(G.l.set i z).getD i default=z:=λz=>by rw[il _ _ _ _ hi,if_pos rfl]
 have h1:=h.cell hi (j:=0) ag (vi y.s) {G.l.getD i default with s:=y.s} rfl;have h2:=h1.trans (h1.at_.cell (i:=i) (j:=1) (by simpa[Mg.put] using hi) ag (vi y.l) {G.l.getD i default with s:=y.s,l:=y.l} (by dsimp only[iL.lay,Mg.put,iL.view];rw[e];rfl));have h3:=h2.trans (h2.at_.cell (i:=i) (j:=2) (by simpa[Mg.put] using hi) ag (vi y.r) {G.l.getD i default with s:=y.s,l:=y.l,r:=y.r} (by dsimp only[iL.lay,Mg.put,iL.view];rw[ac2,e];rfl));have h4:=h3.trans (h3.at_.cell (i:=i) (j:=3) (by simpa[Mg.put] using hi) ag (vi y.n) y (by dsimp only[iL.lay,Mg.put,iL.view];rw[ac2,ac2,e];rfl))
 simpa only[iL.lay,Mg.put,iL.view,ac2,Nat.add_zero] using h4
def Held.cells (h:Held aA w m G M):w.cell? ⟨m,0,none⟩=some (ptr G.k)/\w.cell? ⟨m,1,none⟩=some (aco (some ⟨G.gl,0,none⟩) G.l.length G.cl)/\w.cell? ⟨m,2,none⟩=some (vi G.at_)/\w.cell? ⟨m,3,none⟩=some (vi G.aC)/\w.cell? ⟨m,4,none⟩=some (vi G.bad)/\w.cell? ⟨m,5,none⟩=some (acg G.even) :=
 ⟨h.mgr.mgr.cell 0,h.mgr.mgr.cell 1,h.mgr.mgr.cell 2,h.mgr.mgr.cell 3,h.mgr.mgr.cell 4,h.mgr.mgr.cell 5⟩
def Held.j3 (h:Held aA w m G M)(hi:i<G.l.length):w.cell? ⟨G.gl,i*4,none⟩=some (vi (G.l.getD i default).s)/\w.cell? ⟨G.gl,i*4+1,none⟩=some (vi (G.l.getD i default).l)/\w.cell? ⟨G.gl,i*4+2,none⟩=some (vi (G.l.getD i default).r)/\w.cell? ⟨G.gl,i*4+3,none⟩=some (vi (G.l.getD i default).n) :=
 ⟨h.mgr.cell hi (j:=0) ag,h.mgr.cell hi (j:=1) ag,h.mgr.cell hi (j:=2) ag,h.mgr.cell hi (j:=3) ag⟩
def ou (h:Held aA w m G M):ac4 prog 202 #[ptr m] w λe w'=>e=ab4 (vi (if M.down then 4 else 0))/\w'=w:=by
 obtain⟨c0,c1,c2,c3,c4,c5⟩:=h.cells;have HU:=az (ET h.aW);clear h c1 c2 c3 c4 c5;generalize M.down=d at*;cases d
 ·go_in;go_wp2_with fail;refine HU.o.mono ?_;rintro e w' ⟨rfl,rfl⟩;go_wp2;go_ret;exact⟨rfl,rfl⟩
 go_in;go_wp2_with fail;refine HU.o.mono ?_;rintro e w' ⟨rfl,rfl⟩;go_wp2;go_ret;exact⟨rfl,rfl⟩
def dP (h:Held aA w m G M)(k:Int):ac4 prog 140 #[ptr m,vi k] w λe w'=>e=ab4 (acg (G.view.there k))/\w'=w:=by
 obtain⟨c0,c1,c2,c3,c4,c5⟩:=h.cells;clear c0 c2 c3 c4 c5;by_cases h0:0<=k
 ·by_cases h1:k<G.l.length
  ·obtain⟨i,rfl⟩:∃i:Nat,k=i:=⟨k.toNat,aa⟩;have hi:i<G.l.length:=aa;have HQ:Hid (G.view.there i=((G.l.getD i default).s != 4)):=az (by
    unfold Mg.there
    rw[decide_eq_true h0,decide_eq_true (by exact h1)]
    rfl)
   obtain⟨d0,d1,d2,d3⟩:=h.j3 hi;clear d1 d2 d3 h;generalize (G.l.getD i default).s=s at*;go_in;go_wp2;go_ret;exact⟨aU HQ.o.symm,rfl⟩
  have HQ:Hid (G.view.there k=false):=az (by
   unfold Mg.there
   rw[decide_eq_false (p:=k<_) (by exact h1)]
   simp)
  clear h;have h2:(G.l.length:Int)<=k:=aa;go_in;go_wp2;go_ret;exact⟨aU HQ.o.symm,rfl⟩
 have HQ:Hid (G.view.there k=false):=az (by
  unfold Mg.there
  rw[decide_eq_false h0]
  rfl)
 clear h;go_in;go_wp2;go_ret;exact⟨aU HQ.o.symm,rfl⟩
def Held.Wx (h:Held aA w m G M)(hi:i<G.l.length)(hl:(G.l.getD i default).l=0):bJ aA w m G M ((w.setCell ⟨G.gl,i*4,none⟩ (vi 2)).setCell ⟨G.gl,i*4,none⟩ (vi 3)) (G.view.put i (dH (G.view.blk i))) M:=by
 have e:∀z,(G.l.set i z).getD i default=z:=λz=>by rw[il _ _ _ _ hi,if_pos rfl]
 have h1:=h.cell hi (j:=0) ag (vi 2) {G.l.getD i default with s:=2} rfl;have h2:=h1.trans (h1.at_.cell (i:=i) (j:=0) (by simpa[Mg.put] using hi) ag (vi 3) {G.l.getD i default with s:=3} (by dsimp only[iL.lay,Mg.put,iL.view];rw[e];rfl));have hq:dH (G.view.blk i)={G.l.getD i default with s:=3}:=by unfold dH;rw[if_pos hl]
 rw[hq];simpa only[iL.lay,Mg.put,iL.view,ac2,Nat.add_zero] using h2
def Held.Wy (h:Held aA w m G M)(hi:i<G.l.length)(hl:¬(G.l.getD i default).l=0):bJ aA w m G M (w.setCell ⟨G.gl,i*4,none⟩ (vi 2)) (G.view.put i (dH (G.view.blk i))) M:=by
 have h1:=h.cell hi (j:=0) ag (vi 2) {G.l.getD i default with s:=2} rfl;have hq:dH (G.view.blk i)={G.l.getD i default with s:=2}:=by unfold dH;rw[if_neg hl]
 rw[hq];exact h1
def bJ.shut (h:bJ aA w m G M w' g' M')(ha:(i:Int)=g'.at_):bJ aA w m G M (w'.setCell ⟨m,2,none⟩ (vi (-1))) (g'.shut i) M':=by
 have:=h.trans (h.at_.field 2 (vi (-1)) {g' with at_:= -1} rfl rfl);have e:g'.shut i={g' with at_:= -1}:=by unfold Mg.shut;rw[if_pos ha]
 rw[e];exact this
def bJ.EU (h:bJ aA w m G M w' g' M')(ha:¬(i:Int)=g'.at_):bJ aA w m G M w' (g'.shut i) M':=by
 have e:g'.shut i=g':=by unfold Mg.shut;rw[if_neg ha]
 rw[e];exact h
def xy (h:Held aA w m G M)(i:Nat)(hi:i<G.l.length):ac4 prog 205 #[ptr m,vi i] w λe w'=>e=ab4 (.tuple #[])/\bJ aA w m G M w' (G.view.close i) M:=by
 obtain⟨c0,c1,c2,c3,c4,c5⟩:=h.cells;have z0:=h.mgr.row.frozen (i*4);have z2:=h.mgr.mgr.frozen 2;have hne:=h.ne;have hi0:(0:Int)<=(i:Int):=aa;have hi1:(i:Int)<(G.l.length:Int):=aa;obtain⟨d0,d1,d2,d3⟩:=h.j3 hi;have hne':¬G.gl=m:=λe=>hne e.symm
 have HA:Hid (G.view.close i=(G.view.put i (dH (G.view.blk i))).shut i):=az rfl;by_cases hl:(G.l.getD i default).l=0
 ·have HG:=az (h.Wx hi hl);rw[hl]at d1;clear c0 c3 c4 c5 d2 d3 h hi hl;by_cases ha:(i:Int)=G.at_
  ·have hq:((i:Int)==G.at_)=true:=by simp[ha]
   have HE:=az (HG.o.shut (i:=i) ha);clear HG ha;generalize G.view.close i=V at*;generalize (G.view.put i (dH (G.view.blk i))).shut i=V' at*;go_in;go_wp2_with fail;go_end0;exact⟨rfl,by rw[HA.o];exact HE.o⟩
  have hq:((i:Int)==G.at_)=false:=by simp[ha]
  have HE:=az (HG.o.EU (i:=i) ha);clear HG ha;generalize G.view.close i=V at*;generalize (G.view.put i (dH (G.view.blk i))).shut i=V' at*;go_in;go_wp2_with fail;go_end0;exact⟨rfl,by rw[HA.o];exact HE.o⟩
 have HG:=az (h.Wy hi hl);have hl':((G.l.getD i default).l==0)=false:=by simpa using hl
 generalize (G.l.getD i default).l=n at*;clear c0 c3 c4 c5 d2 d3 h hi hl;by_cases ha:(i:Int)=G.at_
 ·have hq:((i:Int)==G.at_)=true:=by simp[ha]
  have HE:=az (HG.o.shut (i:=i) ha);clear HG ha;generalize G.view.close i=V at*;generalize (G.view.put i (dH (G.view.blk i))).shut i=V' at*;go_in;go_wp2_with fail;go_end0;exact⟨rfl,by rw[HA.o];exact HE.o⟩
 have hq:((i:Int)==G.at_)=false:=by simp[ha]
 have HE:=az (HG.o.EU (i:=i) ha);clear HG ha;generalize G.view.close i=V at*;generalize (G.view.put i (dH (G.view.blk i))).shut i=V' at*;go_in;go_wp2_with fail;go_end0;exact⟨rfl,by rw[HA.o];exact HE.o⟩
def Ia (P:gcs.aD->Bool)(Q:gcs.aD->gcs.aD->Bool)(bs:List gcs.aD)(k:Nat):gcs.bestTo P Q bs (k+1)=if P (bs.getD k default)&&(decide (gcs.bestTo P Q bs k<0)||Q (bs.getD k default) (bs.getD (gcs.bestTo P Q bs k).toNat default)) then (k:Int) else gcs.bestTo P Q bs k:=rfl
def bJ.gU (h:bJ aA w m G M w' g' M)(hi:i<g'.l.length):bJ aA w m G M (((((w'.setCell ⟨G.gl,i*4,none⟩ (vi 1)).setCell ⟨G.gl,i*4+1,none⟩ (vi 0)).setCell ⟨G.gl,i*4+2,none⟩ (vi (g'.blk i).r)).setCell ⟨G.gl,i*4+3,none⟩ (vi 0)).setCell ⟨m,2,none⟩ (vi i)) (g'.gU i) M:=by
 have h1:=h.trans (h.at_.block hi ⟨1,0,(g'.blk i).r,0⟩);exact h1.trans (h1.at_.field 2 (vi i) (g'.gU i) rfl rfl)
def qX (w:acL)(o:Obj):acN w.heap.size w (w.alloc o):=ak.alloc aj o
def sH (h:Held aA w m G M):ac4 prog 203 #[ptr m] w λe w'=>e=ab4 (acg (decide (0<=G.view.freeI)))/\bJ aA w m G M w' G.view.begun M:=by
 obtain⟨c0,c1,c2,c3,c4,c5⟩:=h.cells;have hlen:G.l.length<=9223372036854775807:=by obtain⟨cur,_,h1,h2,_⟩:=h.mgr.row.blk;unfold maxLen at h2;omega
 have hne:=h.ne;have hgl:=h.mgr.row.lt;have Df:=h.mgr.mgr.lt;have H:=az h;clear c0 c2 c3 c4 c5 h;go_in;go_wp2_with fail;go_loopw [3,11] (λat_ i wr=>∃k:Nat,k<=G.l.length/\i=vi k/\at_=vi (gcs.bestTo freeB gcs.fH G.l k)/\acN w.heap.size w wr) (λ_ i _=>G.l.length-(intOf i).toNat)
 case atStart=>exact⟨0,aaW _,rfl,rfl,ak⟩
 case round =>
  obtain⟨k,hk,rfl,rfl,hb⟩:=hrel;have hbd:=gcs.xm freeB gcs.fH G.l k;by_cases hlt:k<G.l.length
  ·have H1:=az (H.o.old hb);obtain⟨d0,d1,d2,d3⟩:=H1.o.j3 hlt;have c1':wr.cell? ⟨m,1,none⟩=some (aco (some ⟨G.gl,0,none⟩) G.l.length G.cl):=H1.o.cells.2.1;have hst:=az (Ia freeB gcs.fH G.l k);generalize hnx:gcs.bestTo freeB gcs.fH G.l (k+1)=nx at*;generalize hat:gcs.bestTo freeB gcs.fH G.l k=at_ at*;generalize G.l.getD k default=x at*;obtain⟨xs,xl,xr,xn⟩:=x;dsimp only at*;have HW:Hid (acN w.heap.size w (wr.alloc (ach #[vi xs,vi xl,vi xr,vi xn] 193))):=az (hb.alloc hb.size _);have F0:(wr.alloc (ach #[vi xs,vi xl,vi xr,vi xn] 193)).cell? ⟨wr.heap.size,0,none⟩=some (vi xs):=(aD.new _ _ _).cell 0
   have F2:(wr.alloc (ach #[vi xs,vi xl,vi xr,vi xn] 193)).cell? ⟨wr.heap.size,2,none⟩=some (vi xr):=(aD.new _ _ _).cell 2;have C1:(wr.alloc (ach #[vi xs,vi xl,vi xr,vi xn] 193)).cell? ⟨m,1,none⟩=some (aco (some ⟨G.gl,0,none⟩) G.l.length G.cl):=cell_below c1' (qX _ _);have fin:∀(y:Int) (W:acL),nx=y->acN w.heap.size w W->∃k':Nat,k'<=G.l.length/\vi ((k:Int)+1)=vi k'/\vi y=vi (gcs.bestTo freeB gcs.fH G.l k')/\acN w.heap.size w W :=
    λy W hy hW=>⟨k+1,aa,ai,by rw[hnx,hy],hW⟩
   have FIN:=az fin;have H2:=az (H1.o.old (qX wr (ach #[vi xs,vi xl,vi xr,vi xn] 193)));clear fin hat hb H1 hnx;by_cases hs:xs=0
   ·have QQ:(xs==0)=true:=beq_iff_eq.2 hs;by_cases ha:at_= -1
    ·have hq:(at_== -1)=true:=beq_iff_eq.2 ha;have HN:Hid (nx=(k:Int)):=az (by rw[hst.o,if_pos];simp[freeB,hs,ha]);clear hs ha hst;go_upto_region 5 with fail;clear d0 d1 d2 d3 c1';generalize wr.alloc (ach #[vi xs,vi xl,vi xr,vi xn] 193)=w1 at*;go_quiet (fail);go_wp2;go_roundw
     case rel=>exact FIN.o _ _ HN.o (below_drewN HW.o _)
     case measure=>simp[intOf];omega
    have hq:(at_== -1)=false:=beq_eq_false_iff_ne.2 ha;obtain⟨j,rfl⟩:∃j:Nat,at_=j:=⟨at_.toNat,aa⟩;have hj:j<G.l.length:=aa;have hj0:(0:Int)<=(j:Int):=aa;have hj1:(j:Int)<(G.l.length:Int):=aa;have e2:=(H2.o.j3 hj).2.2.1;have HN:Hid (nx=if xr<(G.l.getD j default).r then (k:Int) else (j:Int)):=az (by
     rw[hst.o]
     have:¬(j:Int)<0:=aa
     by_cases hy:xr<(G.l.getD j default).r
     rw[if_pos hy,if_pos];simp only[freeB,hs,gcs.fH,acW,decide_eq_true hy];simp
     rw[if_neg hy,if_neg];simp only[freeB,hs,gcs.fH,acW,decide_eq_false hy];simp)
    generalize (G.l.getD j default).r=yr at*;clear hs ha hst;by_cases hy:xr<yr
    ·have hyd:decide (xr<yr)=true:=decide_eq_true hy;rw[if_pos hy]at HN;go_upto_region 5 with fail;clear d0 d1 d2 d3 c1';generalize wr.alloc (ach #[vi xs,vi xl,vi xr,vi xn] 193)=w1 at*;go_quiet (fail);go_wp2;go_roundw
     case rel=>exact FIN.o _ _ HN.o (below_drewN HW.o _)
     case measure=>simp[intOf];omega
    have hyd:decide (xr<yr)=false:=decide_eq_false hy;rw[if_neg hy]at HN;go_upto_region 5 with fail;clear d0 d1 d2 d3 c1';generalize wr.alloc (ach #[vi xs,vi xl,vi xr,vi xn] 193)=w1 at*;go_quiet (fail);go_wp2;go_roundw
    case rel=>exact FIN.o _ _ HN.o (below_drewN HW.o _)
    case measure=>simp[intOf];omega
   have QQ:(xs==0)=false:=beq_eq_false_iff_ne.2 hs;have HN:Hid (nx=at_):=az (by rw[hst.o,if_neg];simp[freeB,hs]);clear hs hst;go_upto_region 5 with fail;clear d0 d1 d2 d3 c1';generalize wr.alloc (ach #[vi xs,vi xl,vi xr,vi xn] 193)=w1 at*;go_quiet (fail);go_wp2;go_roundw
   case rel=>exact FIN.o _ _ HN.o (below_drewN HW.o _)
   case measure=>simp[intOf];omega
  obtain rfl:k=G.l.length:=aa;have HG:=az (bJ.aX H.o hb);generalize hat:gcs.bestTo freeB gcs.fH G.l G.l.length=at_ at*;have HF:Hid (G.view.freeI=at_):=az hat;clear hat;by_cases ha:at_= -1
  ·have hq:(at_== -1)=true:=beq_iff_eq.2 ha;have HQ:Hid (G.view.begun=G.view/\decide (0<=G.view.freeI)=false):=az (by
    refine⟨?_,?_⟩
    unfold Mg.begun;rw[HF.o,if_pos aa]
    rw[HF.o];simp[ha])
   clear ha hb;go_wp2;go_ret;exact⟨aU HQ.o.2.symm,by rw[HQ.o.1];exact HG.o⟩
  have hq:(at_== -1)=false:=beq_eq_false_iff_ne.2 ha;obtain⟨j,rfl⟩:∃j:Nat,at_=j:=⟨at_.toNat,aa⟩;have hj:j<G.l.length:=aa;have hj0:(0:Int)<=(j:Int):=aa;have hj1:(j:Int)<(G.l.length:Int):=aa;have HQ:Hid (G.view.begun=G.view.gU j/\decide (0<=G.view.freeI)=true):=az (by
   refine⟨?_,?_⟩
   unfold Mg.begun;rw[HF.o,if_neg aa,acW]
   rw[HF.o];simp)
  have H1:=az (H.o.old hb);obtain⟨d0,d1,d2,d3⟩:=H1.o.j3 hj;have c1':wr.cell? ⟨m,1,none⟩=some (aco (some ⟨G.gl,0,none⟩) G.l.length G.cl):=H1.o.cells.2.1;have c2':wr.cell? ⟨m,2,none⟩=some (vi G.at_):=H1.o.cells.2.2.1;have z:=λj=>H1.o.mgr.row.frozen j
  have z2:=H1.o.mgr.mgr.frozen 2;have HO:=az (((HG.o.old au).gU (i:=j) hj));have hne':¬G.gl=m:=λe=>hne e.symm
  have z00:=z (j*4);have z01:=z (j*4+1);have z02:=z (j*4+2);have z03:=z (j*4+3);generalize (G.l.getD j default).s=s at*;generalize (G.l.getD j default).l=l at*;change Hid (bJ aA w m G M (((((wr.drew.setCell ⟨G.gl,j*4,none⟩ (vi 1)).setCell ⟨G.gl,j*4+1,none⟩ (vi 0)).setCell ⟨G.gl,j*4+2,none⟩ (vi (G.l.getD j default).r)).setCell ⟨G.gl,j*4+3,none⟩ (vi 0)).setCell ⟨m,2,none⟩ (vi j)) _ M) at HO;generalize (G.l.getD j default).r=r at*;generalize (G.l.getD j default).n=n at*;clear ha hb z H1 HG;go_wp2_with fail;go_still_tail 15,ah;change wpList _ _ _ _ _ wr.drew;go_wp2
  go_ret;exact⟨aU HQ.o.2.symm,by rw[HQ.o.1];exact HO.o⟩
end mgr
structure eH (t u ty:TypeId)(v src:acK)(w:acL)(v':acK)(w':acL):Prop where
 run:(Builtin.append_ #[t,u] ty #[v,src]).run prog w=.ok v' w'
structure vH (t u ty:TypeId)(v src:acK)(w:acL)(v':acK)(w':acL):Prop where
 run:(Builtin.copy_ #[t,u] ty #[v,src]).run prog w=.ok v' w'
variable{w':acL}{o:Oper}{Q:Exit->Act->acL->Prop}{u:TypeId}
def wpList_copy_run {ops:Array Oper}{rest:List Oper}{a:Act}(hgd:o.guard=none)(s x:Operand){t:TypeId}
  (ho:o.op=.call {callee:=.builtin .copy,args:=#[s,x],argTypes:=#[t,u]}) {v src v':acK} (hs:a.eval s=v) (hx:a.eval x=src)
  (hrun:vH t u o.type v src w v' w') (h:wpList prog ops Q rest (a.put o.dst v') w'):wpList prog ops Q (o::rest) a w:=by
 refine wpList_plain hgd λK hK=>?_
 unfold Oper.wp execOp;simp only[ho,resolve,invoke,builtin,Sem.run_bind,Sem.run_pure,Result.andThen_ok,List.map_toArray,List.map_cons,List.map_nil,hs,hx,hrun.run];exact hK _ _ h
variable{g n:Nat}{l:List Nat}
def o9 {c:Nat}(h:Own w aA (aco (some ⟨g,0,none⟩) n c) l)(hn:n=l.length)(j x:Nat) :
  Own (w.setCell ⟨g,j,none⟩ (vb x)) aA (aco (some ⟨g,0,none⟩) n c) (l.set j x):=by
 subst hn;have:=(acL.ownsRow.stored h j (vb x)).1;unfold Own bv;rw[abZ,List.map_set];exact this
def jd {c:Nat}(h:Own w aA (aco (some ⟨g,0,none⟩) n c) l)(hn:n=l.length)(j:Nat):w.frozen? ⟨g,j,none⟩=false:=by
 subst hn;exact acL.ownsRow.frozenAt h j
def mH {c:Nat}(h:Own w aA (aco (some ⟨g,0,none⟩) n c) l)(hn:n=l.length){j:Nat}(hj:j<n):w.cell? ⟨g,j,none⟩=some (vb (l.getD j 0)):=by
 subst hn;rw[acL.ownsRow.cellAt h j aa,EM hj]
def xz (w:acL)(n:Nat)(hn:n<=1000000):Own (w.alloc (ach (madeCells #[vb 0] n) 5)) w.heap.size (aco (some ⟨w.heap.size,0,none⟩) n n) (aaA n 0):=by
 have:=acL.ownsRow_lit (base:=w.heap.size) (size:=1) (e:=5) w (madeCells #[vb 0] n) n aj (by unfold maxLen;omega) (by simp[madeCells]);rw[toList_madeCells_one]at this;unfold Own bv;rw[abP,List.map_replicate];exact this
def gp (n:Nat)(hn:n<=1000000)(w:acL):(Instr.makeSlice 23 (.int .i64 (n:Int)) (.int .i64 (n:Int))).run prog w=.ok (.slice (some ⟨w.heap.size,0,none⟩) n n) (w.alloc (.cells (madeCells #[vb 0] n) 5)) :=
 run_make_row' 23 5 (vb 0) 1 underlying23 l8 rfl .i64 .i64 n aa aa w
def pz {c:Nat}{m:List Nat}(h:Own w aA (.slice (some ⟨g,0,none⟩) n c) l)(hn:n=l.length)(j:Nat)(hj:j<=n){a:Option Addr}(hr:bE w a m)(cm:Nat)(cj:Nat) :
  ∃w',vH 23 23 3 (.slice (some ⟨g,j,none⟩) (n-j) cj) (.slice a m.length cm) w (vi (min m.length (n-j):Nat)) w' /\
   Own w' aA (.slice (some ⟨g,0,none⟩) n c) (l.take j++m.take (n-j)++l.drop (j+min m.length (n-j)))/\w.grownBy w' (some g):=by
 subst hn;obtain⟨h1,h2⟩:=h;rcases h2 with⟨h2,_⟩|⟨g',cap,cur,hv,hb,hg,hnc,hcm,hcs,htk⟩;cases h2;injection hv with hv _ hc;injection hv with hv;injection hv with hv;subst hv hc;have hcs':(bv (m.take (l.length-j))).length=min m.length (l.length-j):=by rw[sj,acX];omega
 have hlen:(l.take j++m.take (l.length-j)++l.drop (j+min m.length (l.length-j))).length=l.length:=by
  simp only[acZ,acX,List.length_drop];omega
 by_cases hz:min m.length (l.length-j)=0;have hrun:=run_copy_none (P:=prog) w 23 23 3 5 (some ⟨g,j,none⟩) a (l.length-j) cj m.length cm underlying23 (by
  have:=l8
  cases hq:prog.info? 5 with
  |none=>rw[hq]at this;cases this
  |some i=>rw[hq]at this;simp at this;simp[this]) hz
 refine⟨w,⟨by rw[hrun,hz];rfl⟩,?_,acL.grownBy.refl w _⟩;have e:l.take j++m.take (l.length-j)++l.drop (j+min m.length (l.length-j))=l:=by
  have:m.take (l.length-j)=[]:=List.eq_nil_of_length_eq_zero (by rw[acX];omega);rw[this,hz,List.append_nil,Nat.add_zero,List.take_append_drop]
 rw[e];exact⟨h1,.inr ⟨g,c,cur,rfl,hb,hg,hnc,hcm,hcs,htk⟩⟩;obtain⟨b,o,rfl,_⟩:=hr.lookup (k:=0) aa;have hrun:=run_copy_row (P:=prog) w 23 23 3 5 g j (l.length-j) cj ⟨b,o,none⟩ m.length cm cur 5 (bv (m.take (l.length-j))) underlying23 (by
  have:=l8
  cases hq:prog.info? 5 with
  |none=>rw[hq]at this;cases this
  |some i=>rw[hq]at this;simp at this;simp[this]) hg hcs' ((hr.take _).news) (by rw[hcs'];omega) (Q8 _)
 rw[hcs']at hrun;refine⟨_,⟨hrun⟩,⟨by rw[hlen,sj,hlen,Nat.mul_one],.inr ⟨g,c,_,by rw[hlen],hb,setRow_heap w g _ _ _ _ hg,by rw[hlen];exact hnc,hcm,?_,?_⟩⟩,⟨rfl,rfl,rfl,by simp[acL.setRow],λk _ hne=>setRow_other w g k _ (λe=>hne (by rw[e]))⟩⟩;simp only[List.size_toArray,acZ,acX,List.length_drop,hcs',Array.length_toList];omega;rw[hlen,Nat.mul_one];rw[Nat.mul_one]at htk;have hcl:cur.toList.length=c:=by rw[Array.length_toList,hcs,Nat.mul_one]
 have e1:cur.toList.take j=bv (l.take j):=by
  have:=congrArg (List.take j) htk;rw[List.take_take,Nat.min_eq_left hj]at this;rw[this];exact(List.map_take ..).symm
 have e2:(cur.toList.drop (j+min m.length (l.length-j))).take (l.length-(j+min m.length (l.length-j)))=bv (l.drop (j+min m.length (l.length-j))):=by
  have:=congrArg (List.drop (j+min m.length (l.length-j))) htk;rw[List.drop_take]at this;rw[this];exact(List.map_drop ..).symm
 rw[List.toList_toArray,wY,wY,<-e1,<-e2,List.take_append,acZ,hcs',acX,hcl,Nat.min_eq_left aa,ac0 (by rw[acZ,acX,hcs',hcl];omega)]
def Av (n:Nat)(w:acL)(hn:n<=900000):ac4 prog 131 #[vi n] w λe w'=>∃v',e=ab4 v'/\Own w' w.heap.size v' (aaA n 255)/\acN w.heap.size w w':=by
 have hmk:=gp n aa;have HO:=az (xz w n aa);have HB:=az ((ac3 w.heap.size w).alloc aj (ach (madeCells #[vb 0] n) 5));go_in;go_wp2_with fail;clear hmk;generalize w.alloc (ach (madeCells #[vb 0] n) 5)=w1 at*;generalize hg:w.heap.size=g at*;have HG:=az hg;clear hg;go_loopw [9] (λi wr=>∃k:Nat,k<=n/\i=vi k/\Hid (Own wr g (aco (some ⟨g,0,none⟩) n n) (aaA k 255++aaA (n-k) 0))/\Hid (acN g w wr)) (λi _=>n-(intOf i).toNat)
 case atStart=>exact⟨0,aaW _,rfl,HO,HB⟩
 case round =>
  obtain⟨k,hk,rfl,ho,hb⟩:=hrel;by_cases hlt:k<n
  ·have hl:n=(aaA k 255++aaA (n-k) 0).length:=by simp;omega
   have hc:=mH ho.o hl hlt;have hf:=jd ho.o hl k;have HS:Hid (Own (wr.setCell ⟨g,k,none⟩ (vb 255)) g (aco (some ⟨g,0,none⟩) n n) (aaA (k+1) 255++aaA (n-(k+1)) 0)):=az (by
    have:=o9 ho.o hl k 255
    rw[List.set_append_right _ _ ai,abP,Nat.sub_self,show n-k=(n-(k+1))+1 by omega,List.replicate_succ,List.set_cons_zero]at this
    rw[List.replicate_succ',List.append_assoc]
    exact this)
   clear hl ho;go_wp2;go_roundw
   case rel=>exact⟨k+1,aa,by go_num,HS,az (hb.o.setCell aj _)⟩
   case measure=>simp[intOf];omega
  obtain rfl:k=n:=aa;have ho':=ho.o;rw[Nat.sub_self,List.replicate_zero,List.append_nil]at ho';have HO':=az ho';clear ho ho';go_wp2;go_ret;exact⟨_,rfl,by rw[HG.o];exact HO'.o,by rw[HG.o];exact hb.o⟩
def jr (a:Option Addr)(l:List Nat)(c:Nat)(w:acL)(h:bE w a l)(hl:l.length<=900000) :
  ac4 prog 63 #[.slice a l.length c] w λe w'=>∃v',e=.returned v'/\Own w' w.heap.size v' l/\acN w.heap.size w w':=by
 have hen:=λ(w:acL) (a:Option Addr) (n c:Nat)=>Lib.run_eql_slice_nil (P:=prog) w 23 5 a n c 0 0 underlying23;cases a with
 |none =>
  have h0:l=[]:=by
   rcases h.at_ with h|⟨b,o,he,_⟩;exact h;cases he
  subst h0;go_in;go_wp2;go_ret;exact⟨_,rfl,Own.nil _ _,ak⟩
 |some ad =>
  obtain⟨v',w',hrun,ho,hs⟩:=ik (c:=c) (Own.lit (Nat.le_refl w.heap.size) [] ai (cs:=#[]) rfl) (h.below ((ac3 _ w).alloc aj _)) (by simp;omega) ai;have R:eH 23 23 23 (.slice (some ⟨w.heap.size,0,none⟩) 0 0) (.slice (some ad) l.length c) (w.alloc (.cells #[] 5)) v' w':=⟨hrun⟩;have HB:=az (((ac3 w.heap.size w).alloc aj (.cells #[] 5)).trans hs.below);have HO:=az ho;clear hrun ho hs;go_in;go_wp2_with (at_builtin;refine wpList_append_run rfl (.tmp 5) (.tmp 6) rfl rfl rfl R.run ?_);go_ret;exact⟨_,rfl,HO.o,HB.o⟩
def Ib (h:aT aA w k M)(hS:M.S<=512)(a:Option Addr)(l:List Nat)(c:Nat)(hr:bE w a l) :
  ac4 prog 232 #[ptr k,aco a l.length c] w λe w'=>∃v',e=ab4 v'/\Own w' w.heap.size v' (NP.Ad (M.S+32) l)/\acN w.heap.size w w':=by
 have HC:=az h;have HR:=az hr;clear h hr;go_in;go_wp2_with fail;refine(full_any HC.o hS).mono ?_;rintro e w' ⟨rfl,rfl⟩;go_wp2_with fail;refine(Av (M.S+32) _ aa).mono ?_;rintro e w2 ⟨v2,rfl,ho2,hb2⟩;rcases ho2.2 with⟨_,h0⟩|⟨g,cap,cur,hv,hg,_⟩;simp at h0;rw[abP]at hv;subst hv;obtain⟨w3,hrun,ho3,hg3⟩:=pz ho2 (abP ..).symm 0 (aaW _) (HR.o.below hb2) c cap;have Og:=az hrun;have EW:Hid (Own w3 w'.heap.size (aco (some ⟨g,0,none⟩) (M.S+32) cap) (NP.Ad (M.S+32) l)):=az (by
  have e:NP.Ad (M.S+32) l=(aaA (M.S+32) 255).take 0++l.take (M.S+32-0)++(aaA (M.S+32) 255).drop (0+min l.length (M.S+32-0)):=by
   simp only[NP.Ad,List.take_zero,List.nil_append,Nat.sub_zero,Nat.zero_add,List.drop_replicate]
   congr 2
   omega
  rw[e]
  exact ho3)
 have HB3:=az (hb2.grown hg3 hb2.size (λx hx=>by injection hx with hx;omega));clear hrun ho3 hg3 ho2;go_wp2_with (refine wpList_copy_run rfl (.tmp 9) (.tmp 10) rfl rfl rfl Og.o ?_);go_ret;exact⟨_,rfl,EW.o,HB3.o⟩
def and_one:bits .and .u64 (1:Int) 4294967295=1:=ah
def Wz (n:Nat)(h:n<=900000):bits .and .u64 (n:Int) 4294967295=(n:Int):=by
 have h1:=bits_and_u64_nat n 4294967295 aa aa;rw[show n &&& 4294967295=n by
  have:=Nat.and_two_pow_sub_one_eq_mod n 32
  rw[show (2:Nat) ^ 32-1=4294967295 by decide]at this
  rw[this]
  exact Nat.mod_eq_of_lt aa]at h1
 exact h1
def Oh (n:Nat)(w:acL)(hn:n<=900000):ac4 prog 209 #[vq 1,vq n] w λe w'=>e=ab4 (.tuple #[vq 0,vq n])/\w'=w:=by
 have h1:=and_one;have h2:=Wz n hn;have h3:bits .and .u64 (0:Int) 4294967295=0:=ah;have h4:(n:Int)/4294967296=0:=aa;go_in;go_wp2;go_ret2;simp
def WA (n:Nat)(w:acL)(hn:n<=900000):ac4 prog 176 #[vq 1,vq n] w λe w'=>e=ab4 (.tuple #[vq 0,vq n])/\w'=w:=by
 go_in;go_wp2_with fail;refine(Oh n w hn).mono ?_;rintro e w' ⟨rfl,rfl⟩;go_wp2;go_ret2;exact⟨rfl,rfl⟩
def Oi {ops:Array Oper}{a:Act}{K:Act->acL->Prop}{E:Prop}(s x:Operand){t:TypeId}{v src v':acK}
  (hrun:vH t u o.type v src w v' w') (hgd:o.guard=none) (ho:o.op=.call {callee:=.builtin .copy,args:=#[s,x],argTypes:=#[t,u]}) (hs:a.eval s=v) (hx:a.eval x=src) (h:K (a.put o.dst v') w'):if Region.wanted o (yielded ops a.tmps)=true then Oper.wp prog o a w K Q else E:=by
 have hw:Region.wanted o (yielded ops a.tmps)=true:=by simp[Region.wanted,hgd]
 rw[if_pos hw];unfold Oper.wp execOp;simp only[ho,resolve,invoke,builtin,Sem.run_bind,Sem.run_pure,Result.andThen_ok,List.map_toArray,List.map_cons,List.map_nil,hs,hx,hrun.run];exact h
def RO (n q y:Nat)(hq:q<=n):(aaA q y++aaA (n-q) 0).take q++(aaA q y).take (n-q)++(aaA q y++aaA (n-q) 0).drop (q+min q (n-q))=aaA (q+min q (n-q)) y++aaA (n-(q+min q (n-q))) 0:=by
 have e1:(aaA q y++aaA (n-q) 0).take q=aaA q y:=by
  rw[List.take_append_of_le_length ai,ac0 ai]
 have e2:(aaA q y).take (n-q)=aaA (min q (n-q)) y:=by
  rw[List.take_replicate,Nat.min_comm]
 have e3:(aaA q y++aaA (n-q) 0).drop (q+min q (n-q))=aaA (n-(q+min q (n-q))) 0:=by
  rw[List.drop_append,List.drop_eq_nil_of_le ai,List.nil_append,abP,List.drop_replicate];congr 1;omega
 rw[e1,e2,e3,<-List.replicate_append_replicate]
def Kb (a:Option Addr)(y n c:Nat)(w:acL)(h:bE w a [y])(hn:n<=900000)(hn1:1<=n) :
  ac4 prog 148 #[aco a 1 c,vi n] w λe w'=>∃v',e=ab4 v'/\Own w' w.heap.size v' (aaA n y)/\acN w.heap.size w w':=by
 have hmk:=gp n aa;have HO:=az (xz w n aa);have HB:=az ((ac3 w.heap.size w).alloc aj (ach (madeCells #[vb 0] n) 5));have HR:=az (h.below ((ac3 w.heap.size w).alloc aj (ach (madeCells #[vb 0] n) 5)));have zi:=az (h.small y ai);clear h;go_in;go_wp2_with fail;refine(WA n w hn).mono ?_;rintro e w' ⟨rfl,rfl⟩;obtain⟨w2,hrun,ho,hg⟩:=pz HO.o (abP ..).symm 0 (aaW _) HR.o c n;rw[show min [y].length (n-0)=1 by simp;omega]at hrun;have Og:=az hrun;have yz:Hid (Own w2 w'.heap.size (aco (some ⟨w'.heap.size,0,none⟩) n n) (aaA 1 y++aaA (n-1) 0)):=az (by
  have e:aaA 1 y++aaA (n-1) 0=(aaA n 0).take 0++[y].take (n-0)++(aaA n 0).drop (0+min [y].length (n-0)):=by
   rw[show min [y].length (n-0)=1 by simp;omega,ac0 (l:=[y]) (by simp;omega),List.take_zero,List.drop_replicate]
   rfl
  rw[e]
  exact ho)
 have HB2:=az (HB.o.grown hg ai (λx hx=>by injection hx with hx;omega));clear hrun ho hg;go_wp2_with (refine wpList_copy_run rfl (.tmp 31) (.tmp 32) rfl rfl rfl Og.o ?_);clear hmk Og HO HB HR;generalize hgg:w'.heap.size=g at*;have HG:=az hgg;clear hgg;go_loopw [8] (λi wr=>∃q:Nat,1<=q/\q<=n/\i=vi q/\Hid (Own wr g (aco (some ⟨g,0,none⟩) n n) (aaA q y++aaA (n-q) 0))/\Hid (acN g w' wr)) (λi _=>n-(intOf i).toNat)
 case atStart=>exact⟨1,aj,hn1,rfl,yz,HB2⟩
 case round =>
  obtain⟨q,hq1,hq,rfl,ho,hb⟩:=hrel;by_cases hlt:q<n
  ·have hl:n=(aaA q y++aaA (n-q) 0).length:=by simp;omega
   obtain⟨ar,cr,hv,hrow,-⟩:=ho.o.drew.row (by
    have hy:=ho.o
    intro x hx
    rcases List.mem_append.1 hx with hx|hx
    rw[(List.mem_replicate.1 hx).2]
    exact zi.o
    rw[(List.mem_replicate.1 hx).2];omega)
   rw[<-hl]at hv;injection hv with hv _ hv2;subst hv hv2;have hrq:=hrow.take q;rw[List.take_append_of_le_length ai,ac0 ai]at hrq;obtain⟨w3,hrun,ho3,hg3⟩:=pz ho.o.drew hl q hq hrq n (n-q);rw[abP]at hrun ho3;rw[RO n q y hq]at ho3;have RC:vH 23 23 3 (aco (some ⟨g,q,none⟩) (n-q) (n-q)) (aco (some ⟨g,0,none⟩) q n) wr.drew (vi (min q (n-q):Nat)) w3:=hrun;generalize hmm:min q (n-q)=mm at*;have amh:1<=mm/\mm<=n-q:=aa;clear hmm;have hws:IntKind.i64.wrap ((q:Int)+(mm:Int))=(q:Int)+(mm:Int):=IntWalk.i64_in _ aa;have EW:=az ho3
   have HB3:=az (hb.o.drew.grown hg3 (show g<=wr.heap.size by have:=hb.o.size;have:=HG.o;omega) (λx hx=>by injection hx with hx;omega));have hs1:(0:Int)<=(q:Int):=aa;have hs2:(q:Int)<=(n:Int):=aa;have hs3:¬n=q:=aa;clear hrun ho3 hg3 hrow hrq ho hb hl;go_wp2_with fail;go_region_law (refine Oi (.tmp 41) (.tmp 44) RC (by rfl) (by rfl) (by go_simp) (by go_simp) ?_);all_goals
    go_simp;go_roundw
    case rel=>exact⟨_,_,_,_,_,_,_,_,_,_,_,_,_,_,⟨q+mm,aa,aa,by go_num,EW,HB3⟩,rfl⟩
    case measure=>simp[intOf];omega
  obtain rfl:q=n:=aa;have ho':=ho.o;rw[Nat.sub_self,List.replicate_zero,List.append_nil]at ho';have HO':=az ho';clear ho ho';go_wp2;go_ret;exact⟨_,rfl,by rw[HG.o];exact HO'.o,by rw[HG.o];exact hb.o⟩
def Kc (M:dA)(j:Int):Bool:=if 0<=j/\j<M.bs.length then (M.bs.getD j.toNat default).bad else true
def vI (M:dA)(j:Int):Int:=if 0<=j/\j<M.bs.length then (M.bs.getD j.toNat default).eF else 0
def EX (h:aT aA w k M)(j:Int):ac4 prog 85 #[ptr k,vi j] w λe w'=>e=ab4 (acg (Kc M j))/\w'=w:=by
 obtain⟨c0,c1,c2,c3,c4,c5,c6,c7,c8⟩:=h.cells;by_cases hj:0<=j/\j<M.bs.length
 ·obtain⟨i,rfl⟩:∃i:Nat,j=i:=⟨j.toNat,aa⟩;have hi:i<M.bs.length:=aa;have ht:=az (show fC M i=true by simp[fC];omega);have hc:w.cell? ⟨M.kb,i*5+3,none⟩=some (acg (M.bs.getD i default).bad):=h.iG hi (j:=3) ag;have HC:=az h;have HJ:=az hj;generalize hb:(M.bs.getD i default).bad=b at*;have HB:=az hb;clear h c0 c1 c2 c4 c5 c6 c7 c8 hj hb;go_in;go_wp2_with fail;refine(dP HC.o i).mono ?_;rintro e w' ⟨rfl,rfl⟩;rw[ht.o];go_wp2;go_ret;exact⟨aU (by rw[Kc,if_pos HJ.o,acW,HB.o]),rfl⟩
 have ht:=az (show fC M j=false by simp[fC];omega);have HC:=az h;have HJ:=az hj;clear h c0 c1 c2 c3 c4 c5 c6 c7 c8 hj;go_in;go_wp2_with fail;refine(dP HC.o j).mono ?_;rintro e w' ⟨rfl,rfl⟩;rw[ht.o];go_wp2;go_ret;exact⟨aU (by rw[Kc,if_neg HJ.o]),rfl⟩
def Aw (h:aT aA w k M)(j:Int):ac4 prog 123 #[ptr k,vi j] w λe w'=>e=ab4 (vi (vI M j))/\w'=w:=by
 obtain⟨c0,c1,c2,c3,c4,c5,c6,c7,c8⟩:=h.cells;by_cases hj:0<=j/\j<M.bs.length
 ·obtain⟨i,rfl⟩:∃i:Nat,j=i:=⟨j.toNat,aa⟩;have hi:i<M.bs.length:=aa;have ht:=az (show fC M i=true by simp[fC];omega);have hc:w.cell? ⟨M.kb,i*5+4,none⟩=some (vi (M.bs.getD i default).eF):=h.iG hi (j:=4) ag;have HC:=az h;have HJ:=az hj;generalize hb:(M.bs.getD i default).eF=b at*;have HB:=az hb;clear h c0 c1 c2 c4 c5 c6 c7 c8 hj hb;go_in;go_wp2_with fail;refine(dP HC.o i).mono ?_;rintro e w' ⟨rfl,rfl⟩;rw[ht.o];go_wp2;go_ret;exact⟨bS (by rw[vI,if_pos HJ.o,acW,HB.o]),rfl⟩
 have ht:=az (show fC M j=false by simp[fC];omega);have HC:=az h;have HJ:=az hj;clear h c0 c1 c2 c3 c4 c5 c6 c7 c8 hj;go_in;go_wp2_with fail;refine(dP HC.o j).mono ?_;rintro e w' ⟨rfl,rfl⟩;rw[ht.o];go_wp2;go_ret;exact⟨bS (by rw[vI,if_neg HJ.o]),rfl⟩
def Oj (M:dA)(i:Nat)(q:sD):dA:={M with bs:=M.bs.set i {M.bs.getD i default with ps:=(M.bs.getD i default).ps.set (M.bs.getD i default).next q,next:=(M.bs.getD i default).next+1}}
variable{i:Nat}
def getD_map {α β:Type}{f:α->β}{l:List α}{d:α}{d':β}(h:i<l.length):(l.map f).getD i d'=f (l.getD i d):=by
 simp[aah,aaj h]
def kM (h:i<M.bs.length):M.view.blk i=(M.bs.getD i default).view:=getD_map h
def xA {q:sD}(h:i<M.bs.length):(Oj M i q).view=NP.ni M.view i q.l:=by
 unfold Oj NP.ni NP.gI;dsimp only;rw[kM h];simp[dA.view,eG.view,List.map_set]
def sI (h:aT aA w k M)(i:Nat)(hi:i<M.bs.length)(hn:(M.bs.getD i default).next<(M.bs.getD i default).ps.length)(hp:(M.bs.getD i default).ps.length<=32)(q:sD)(hq:q.ok aA w) :
  ac4 prog 231 #[.pointer (some ⟨M.kb,i*5,none⟩),q.v] w λe w'=>e=ab4 (.tuple #[])/\Goes aA w k M w' (Oj M i q):=by
 have hD:=bL (d:=default) hi;have c0:w.cell? ⟨M.kb,i*5,none⟩=_:=h.iG hi (j:=0) ag;have c1:w.cell? ⟨M.kb,i*5+1,none⟩=some (vi (M.bs.getD i default).next):=h.iG hi (j:=1) ag;have cp:=h.Hq hi hn;have z1:=h.blocks.frozen (i*5+1);have zp:=(h.pages _ hD).frozen (M.bs.getD i default).next;have hne:=(h.EN hD).2;have G1:=(h.old au).aB hi (p:=(M.bs.getD i default).next) q (hq.aJ (F:=λ_=>False) (aP.of_below au) (λ_ e=>e.elim));have hi1:i<(M.bs.set i {M.bs.getD i default with ps:=(M.bs.getD i default).ps.set (M.bs.getD i default).next q}).length:=by simpa using hi
 have hg1:(M.bs.set i {M.bs.getD i default with ps:=(M.bs.getD i default).ps.set (M.bs.getD i default).next q}).getD i default={M.bs.getD i default with ps:=(M.bs.getD i default).ps.set (M.bs.getD i default).next q}:=by
  rw[NP.iO _ _ _ _ _ hi,if_pos rfl]
 have G2:=G1.at_.Ag (i:=i) (j:=1) hi1 ag (vi ((M.bs.getD i default).next+1:Nat)) {M.bs.getD i default with ps:=(M.bs.getD i default).ps.set (M.bs.getD i default).next q,next:=(M.bs.getD i default).next+1} (by dsimp only;rw[hg1];rfl) (by dsimp only;rw[hg1]) (by dsimp only;rw[hg1]) (by dsimp only;rw[hg1]);have HG:Hid (Goes aA w k M _ (Oj M i q)):=az (by
  have:=(Goes.aX h au).trans (G1.trans G2)
  dsimp only at this
  rw[ac2]at this
  exact this)
 simp only[eG.cells,List.getElem?_cons_zero]at c0;clear G1 G2 hi1 hg1 hD h hq;generalize M.bs.getD i default=x at*;obtain⟨xg,xc,xps,xn,xb,xd,xw⟩:=x;dsimp only at*;go_in;have hs1:(0:Int)<=(xn:Int):=aa;have hs2:(xn:Int)<(xps.length:Int):=aa;have hne':¬M.kb=xg:=λe=>hne e.symm
 go_wp2_with fail;go_still_tail 10,ah;change wpList _ _ _ _ _ w.drew;go_wp2_with fail;go_end0;exact⟨rfl,HG.o⟩
def qY (x:Int):NP.qH x=wrap64 x:=by unfold NP.qH wrap64;rfl
def iw (M:dA):dA:={M with since:=NP.qH (M.since+1),dQ:=NP.qH (M.dQ+1)}
def faultM:List tY->Int->tY
 |[],_=>default
 |f::l,a=>if f.at_=a then f else faultM l a
def faultM_view:∀(l:List tY) (a:Int),(faultM l a).view=NP.faultOf (l.map (·.view)) a
 |[],_=>rfl
 |f::l,a=>by
  unfold faultM
  rw[List.map_cons,NP.faultOf]
  show _=if f.at_=a then _ else _
  split
  rfl
  exact faultM_view l a
def faultM_drop {l:List tY}(a:Int)(h:i<l.length):faultM (l.drop i) a=if (l.getD i default).at_=a then l.getD i default else faultM (l.drop (i+1)) a:=by
 rw[List.drop_eq_getElem_cons h,faultM,aah,aaj h];rfl
def faultM_mem:∀(l:List tY) (a:Int),faultM l a=default\/faultM l a∈l
 |[],_=>ack rfl
 |f::l,a=>by
  unfold faultM
  split
  exact acm ai
  rcases faultM_mem l a with h|h
  exact ack h
  exact acm (by simp[h])
def fault_result {f:tY}(hb:aD w' g 186 f.cs)(tmps:Array acK)(h2:tmps[2]?=some (.pointer (some ⟨g,0,none⟩))) :
  (results Tryz.f121 tmps).run prog w'=.ok (.agg f.cs) w':=by
 have g0:w'.cell? ⟨g,0,none⟩=some (vi f.at_):=hb.cell 0;have g1:w'.cell? ⟨g,1,none⟩=some (vi f.aL):=hb.cell 1;have g2:w'.cell? ⟨g,2,none⟩=some (aco f.a f.l.length f.c):=hb.cell 2;simp only[results,results121];simp[go_sem,h2,g0,g1,g2]
section
abbrev flt0:Array acK:=#[vi 0,vi 0,aco none 0 0]
def size_set (w:acL)(p:Addr)(v:acK):(w.setCell p v).heap.size=w.heap.size:=by simp[acL.setCell]
structure qZ (w:acL)(k:Nat)(M:dA)(cs0 cs1:Array acK)(wr:acL):Prop where
 aJ:aP (λn=>n=k) w wr
 aW:aD wr k 144 (iw M).cs
 b0:aD wr w.heap.size 186 cs0
 b1:aD wr (w.heap.size+1) 186 cs1
 hk:k<w.heap.size
variable{cs0 cs1:Array acK}{wr:acL}
def qZ.alloc (h:qZ w k M cs0 cs1 wr)(o:Obj):qZ w k M cs0 cs1 (wr.alloc o):=⟨h.aJ.alloc o,h.aW.alloc o,h.b0.alloc o,h.b1.alloc o,h.hk⟩
def qZ.set0 (h:qZ w k M cs0 cs1 wr)(j:Nat)(u:acK):qZ w k M (cs0.setIfInBounds j u) cs1 (wr.setCell ⟨w.heap.size,j,none⟩ u) :=
 ⟨h.aJ.setCell (acm aj) u,h.aW.far (p:=⟨w.heap.size,j,none⟩) (by have:=h.hk;dsimp only;omega) u,h.b0.bB j u,h.b1.far (p:=⟨w.heap.size,j,none⟩) (by dsimp only;omega) u,h.hk⟩
def qZ.set1 (h:qZ w k M cs0 cs1 wr)(j:Nat)(u:acK):qZ w k M cs0 (cs1.setIfInBounds j u) (wr.setCell ⟨w.heap.size+1,j,none⟩ u) :=
 ⟨h.aJ.setCell (acm (Nat.le_succ _)) u,h.aW.far (p:=⟨w.heap.size+1,j,none⟩) (by have:=h.hk;dsimp only;omega) u,h.b0.far (p:=⟨w.heap.size+1,j,none⟩) (by dsimp only;omega) u,h.b1.bB j u,h.hk⟩
def fault_any (h:aT aA w k M):ac4 prog 121 #[ptr k] w λe w'=>e=ab4 (.agg (faultM M.fs M.since).cs)/\Goes aA w k M w' (iw M):=by
 obtain⟨c0,c1,c2,c3,c4,c5,c6,c7,c8⟩:=h.cells;have z5:=h.aW.frozen 5;have z7:=h.aW.frozen 7;have hk:=h.aW.lt;have HC:=az h;have hfl:M.fs.length<=9223372036854775807:=by have:=h.faults.len;unfold maxLen at this;omega
 have hz:((w.setCell ⟨k,5,none⟩ (vi (wrap64 (M.since+1)))).setCell ⟨k,7,none⟩ (vi (wrap64 (M.dQ+1)))).heap.size=w.heap.size:=by rw[size_set,size_set]
 have st:qZ w k M flt0 flt0 ((((w.setCell ⟨k,5,none⟩ (vi (wrap64 (M.since+1)))).setCell ⟨k,7,none⟩ (vi (wrap64 (M.dQ+1)))).alloc (ach flt0 186)).alloc (ach flt0 186)) :=
  ⟨((((aP.refl (λn=>n=k) w).setCell (p:=⟨k,5,none⟩) (ack rfl) _).setCell (p:=⟨k,7,none⟩) (ack rfl) _).alloc _).alloc _,by
   have:=(((h.aW.bB 5 (vi (wrap64 (M.since+1)))).bB 7 (vi (wrap64 (M.dQ+1)))).alloc (ach flt0 186)).alloc (ach flt0 186)
   rw[<-qY,<-qY]at this
   rw[<-qY,<-qY]
   exact this,by
   have:=(aD.new ((w.setCell ⟨k,5,none⟩ (vi (wrap64 (M.since+1)))).setCell ⟨k,7,none⟩ (vi (wrap64 (M.dQ+1)))) 186 flt0).alloc (ach flt0 186)
   rw[hz]at this
   exact this,by
   have:=aD.new (((w.setCell ⟨k,5,none⟩ (vi (wrap64 (M.since+1)))).setCell ⟨k,7,none⟩ (vi (wrap64 (M.dQ+1)))).alloc (ach flt0 186)) 186 flt0
   rw[size_alloc,hz]at this
   exact this,hk⟩
 have ST:=az st;clear h st hz;go_in;go_wp2_with fail;go_step3;go_wp2_with fail;go_step3;go_wp2_with fail;clear c0 c1 c2 c3 c4 c5 c6 c7 c8 z5 z7;have HD:=az (show faultM M.fs M.since=faultM (M.fs.drop 0) M.since by rw[List.drop_zero]);go_loopw [31] (λi wr=>∃j:Nat,j<=M.fs.length/\i=vi j/\Hid (qZ w k M flt0 flt0 wr)/\Hid (faultM M.fs M.since=faultM (M.fs.drop j) M.since)) (λi _=>M.fs.length-(intOf i).toNat)
 case atStart=>exact⟨0,aaW _,rfl,ST,HD⟩
 case round =>
  obtain⟨j,hj,rfl,st,hd⟩:=hrel;have d0:wr.cell? ⟨w.heap.size+1,0,none⟩=some (vi 0):=st.o.b1.cell 0;have d1:wr.cell? ⟨w.heap.size+1,1,none⟩=some (vi 0):=st.o.b1.cell 1;have d2:wr.cell? ⟨w.heap.size+1,2,none⟩=some (aco none 0 0):=st.o.b1.cell 2;have e0:wr.cell? ⟨w.heap.size,0,none⟩=some (vi 0):=st.o.b0.cell 0;have e1:wr.cell? ⟨w.heap.size,1,none⟩=some (vi 0):=st.o.b0.cell 1;have e2:wr.cell? ⟨w.heap.size,2,none⟩=some (aco none 0 0):=st.o.b0.cell 2;have f0:=st.o.b0.frozen 0;have f1:=st.o.b0.frozen 1;have f2:=st.o.b0.frozen 2;have h0:=st.o.b1.frozen 0;have h1:=st.o.b1.frozen 1;have h2:=st.o.b1.frozen 2
  by_cases hlt:j<M.fs.length
  ·obtain⟨b,o,hfa,hcell,-⟩:=(HC.o.faults.aJ st.o.aJ (λn e=>HC.o.mine n (ack e))).lookup hlt;have hdr:=faultM_drop M.since hlt;rw[hfa];generalize M.fs.getD j default=f at hcell hdr;obtain⟨fat,fk,fa,fl,fc⟩:=f;have g0:wr.cell? ⟨b,o+j*3,none⟩=some (vi fat):=hcell 0 _ rfl;have g1:wr.cell? ⟨b,o+j*3+1,none⟩=some (vi fk):=hcell 1 _ rfl;have g2:wr.cell? ⟨b,o+j*3+2,none⟩=some (aco fa fl.length fc):=hcell 2 _ rfl;have hlv:=st.o.b1.lt;have hn0:¬wr.heap.size=w.heap.size:=aa;have hn1:¬wr.heap.size=w.heap.size+1:=aa;have hn2:¬w.heap.size=wr.heap.size:=aa;have Y1:¬w.heap.size+1=wr.heap.size:=aa
   clear hfa;have S1:=az (st.o.alloc (ach #[vi fat,vi fk,aco fa fl.length fc] 186));clear hcell;dsimp only at hdr;by_cases hat:fat=M.since
   ·rw[if_pos hat]at hdr;have HF:=az (hd.o.trans hdr);subst hat;clear hdr d0 d1 d2 e0 e1 e2 f0 f1 f2 h0 h1 h2;go_upto_region 9 with fail;have F9:=aD.new wr 186 #[vi M.since,vi fk,aco fa fl.length fc];clear hn0 hn1 hn2 Y1 g0 g1 g2 st hd;generalize wr.alloc (ach #[vi M.since,vi fk,aco fa fl.length fc] 186)=w9 at*;have d0:w9.cell? ⟨w.heap.size+1,0,none⟩=some (vi 0):=S1.o.b1.cell 0;have d1:w9.cell? ⟨w.heap.size+1,1,none⟩=some (vi 0):=S1.o.b1.cell 1;have d2:w9.cell? ⟨w.heap.size+1,2,none⟩=some (aco none 0 0):=S1.o.b1.cell 2;have e0:w9.cell? ⟨w.heap.size,0,none⟩=some (vi 0):=S1.o.b0.cell 0
    have e1:w9.cell? ⟨w.heap.size,1,none⟩=some (vi 0):=S1.o.b0.cell 1;have e2:w9.cell? ⟨w.heap.size,2,none⟩=some (aco none 0 0):=S1.o.b0.cell 2;have f0:=S1.o.b0.frozen 0;have f1:=S1.o.b0.frozen 1;have f2:=S1.o.b0.frozen 2;have h0:=S1.o.b1.frozen 0;have h1:=S1.o.b1.frozen 1;have h2:=S1.o.b1.frozen 2;have k0:w9.cell? ⟨wr.heap.size,0,none⟩=some (vi M.since):=F9.cell 0;have k1:w9.cell? ⟨wr.heap.size,1,none⟩=some (vi fk):=F9.cell 1;have k2:w9.cell? ⟨wr.heap.size,2,none⟩=some (aco fa fl.length fc):=F9.cell 2;clear F9;generalize wr.heap.size=h6 at*;go_wp2_with fail;rw[acY];have T:=(((((S1.o.set1 0 (vi M.since)).set1 1 (vi fk)).set1 2 (aco fa fl.length fc)).set0 0 (vi M.since)).set0 1 (vi fk)).set0 2 (aco fa fl.length fc)
    refine ac5 (v:=.agg #[vi M.since,vi fk,aco fa fl.length fc]) (fault_result (f:=⟨M.since,fk,fa,fl,fc⟩) T.b0 _ rfl) rfl ⟨by rw[HF.o],HC.o.fields T.aJ T.aW rfl rfl rfl ⟨rfl,rfl⟩⟩
   rw[if_neg hat]at hdr;have HF:=az (hd.o.trans hdr);clear hdr;go_wp2;go_roundw
   case rel=>exact⟨j+1,aa,by go_num,S1,HF⟩
   case measure=>simp[intOf];omega
  obtain rfl:j=M.fs.length:=aa;have HF:Hid (faultM M.fs M.since=default):=az (by rw[hd.o,List.drop_length];rfl);go_wp2_with fail;rw[acY];have T:=((st.o.set0 0 (vi 0)).set0 1 (vi 0)).set0 2 (aco none 0 0);exact ac5 (v:=.agg flt0) (fault_result (f:=default) T.b0 _ rfl) rfl ⟨by rw[HF.o];rfl,HC.o.fields T.aJ T.aW rfl rfl rfl ⟨rfl,rfl⟩⟩
end
end Go.Proofs.YtllmbcigmimgoaaGreat
