/-
  Lemmas for a law's proof, put together from several texts. No conditions of their own.
-/
import Derived.Test.YtllmbcigmimgoaaGreatZB13
import Derived.Deep.CutRange
import Derived.Deep.CutBlock
import Derived.Shelf.Sort.Plain
import Derived.Ground.NamesProg
import Derived.Test.YtllmbcigmimgoaaGreatZB06
import Derived.Test.YtllmbcigmimgoaaGreatZB08
import Derived.Sort.MapsRangeIn
import Derived.Sort.LoopGhostIn
set_option maxRecDepth 100000
set_option maxHeartbeats 20000000
set_option linter.all false
namespace Go.Proofs
open _root_.Go.Proofs.Tryz
open Shelf
def Tryz.laysPow_ren:Go.Shelf.Ren:=⟨fun|329=>178|125=>127|128=>162|129=>163|n=>n,fun|3=>3|46=>197|51=>118|53=>150|4=>4|5=>5|9=>9|n=>n,fun|n=>n⟩
theorem Tryz.laysPow:Go.Proofs.Lays.n329 Tryz.prog Tryz.laysPow_ren:={mixed:=by kernel_rfl,f125:=hS func127,f128:=hS func162,f129:=hS func163,f329:=hS func178,t3:=underlying3,a3:=isAgg3,z3:=sizeOf3,v3:=zeroValue3,t4:=underlying4,a4:=isAgg4,z4:=sizeOf4,v4:=zeroValue4,t5:=underlying5,a5:=isAgg5,z5:=sizeOf5,v5:=zeroValue5,t9:=underlying9,a9:=isAgg9,z9:=sizeOf9,v9:=zeroValue9,t46:=underlying197,a46:=isAgg197,z46:=sizeOf197,v46:=zeroValue197,t51:=underlying118,a51:=isAgg118,z51:=sizeOf118,v51:=zeroValue118,t53:=underlying150,a53:=isAgg150,z53:=sizeOf150,v53:=zeroValue150}
def Tryz.laysNext_ren:Go.Shelf.Ren:=⟨fun|330=>179|n=>n,fun|228=>266|53=>150|0=>0|218=>236|46=>197|n=>n,fun|n=>n⟩
theorem Tryz.laysNext:Go.Proofs.Lays.n330 Tryz.prog Tryz.laysNext_ren:={mixed:=by kernel_rfl,f330:=hS func179,t0:=underlying0,a0:=isAgg0,z0:=sizeOf0,v0:=zeroValue0,t46:=underlying197,a46:=isAgg197,z46:=sizeOf197,v46:=zeroValue197,t53:=underlying150,a53:=isAgg150,z53:=sizeOf150,v53:=zeroValue150,t218:=underlying236,a218:=isAgg236,z218:=sizeOf236,v218:=zeroValue236,t228:=underlying266,a228:=isAgg266,z228:=sizeOf266,v228:=zeroValue266}
end Go.Proofs
namespace Go.Proofs
open _root_.Go.Proofs.Tryz
open Shelf
def Tryz.laysLen_ren:Go.Shelf.Ren:=⟨fun|125=>127|128=>162|129=>163|n=>n,fun|46=>197|3=>3|51=>118|53=>150|4=>4|5=>5|9=>9|n=>n,fun|n=>n⟩
theorem Tryz.laysLen:Go.Proofs.Lays.n125 Tryz.prog Tryz.laysLen_ren:={mixed:=by kernel_rfl,f125:=hS func127,f128:=hS func162,f129:=hS func163,t3:=underlying3,a3:=isAgg3,z3:=sizeOf3,v3:=zeroValue3,t4:=underlying4,a4:=isAgg4,z4:=sizeOf4,v4:=zeroValue4,t5:=underlying5,a5:=isAgg5,z5:=sizeOf5,v5:=zeroValue5,t9:=underlying9,a9:=isAgg9,z9:=sizeOf9,v9:=zeroValue9,t46:=underlying197,a46:=isAgg197,z46:=sizeOf197,v46:=zeroValue197,t51:=underlying118,a51:=isAgg118,z51:=sizeOf118,v51:=zeroValue118,t53:=underlying150,a53:=isAgg150,z53:=sizeOf150,v53:=zeroValue150}
end Go.Proofs
namespace Go.Proofs.YtllmbcigmimgoaaGreat
open _root_.Go.Proofs.Tryz
open _root_.Array renaming getElem?_eq_some_iff->aaz,replicate_succ->af8,replicate_zero->af9
open _root_.Go renaming World->acL,Calls->ac4,bodyPost_ret->ac5,results_none->agl,calls_of_every_depth->agm,IntKind->acS,callsIn_wide->agn,Value->acK,wpListIn_plain->agp
open _root_.Go.Calls renaming quiet_of_same->af1
open _root_.Go.Ending renaming returned->ab4
open _root_.Go.Fence renaming wide->agb
open _root_.Go.IntKind renaming i64->adk
open _root_.Go.IntWalk renaming i64_in->adl
open _root_.Go.Obj renaming cells->ach,deferred->adL
open _root_.Go.Oper renaming semAt_some->agh,semAt_plain->agk
open _root_.Go.RowKit renaming Below->acN
open _root_.Go.Value renaming slice->aco,tuple->adg,bool->acg
open _root_.Go.World renaming putObj_heap_other->af4,putObj->af6,putObj_heap_same->agc,alloc_heap_new->agf
open _root_.Int renaming tdiv_eq_ediv_of_nonneg->ae3
open _root_.List renaming size_toArray->af7,append_toArray->aga,range->ac9,length_map->abT,push_toArray->agd,length_cons->adV,cons_append->age,length_nil->afO,nil_append->afl,getElem?_map->aeX,getElem?_eq_none->ac7
open _root_.Nat renaming reduceAdd->agi,reduceSub->agj,le_trans->abX
open _root_.Or renaming inr->acm,inl->ack
open _root_.Prod renaming fst->af5
namespace us
open RowKit mgr ft
variable{w:acL}{g n:Nat}{G:Nat->Nat}
def Yv (h:UR w g n G)(c a b pv:Nat)(hab:a<b)(hp:a<=pv/\pv<b)(hb:b<=n)(hn:n<1000000) :
  ac4 prog 191 #[aco (some ⟨g,0,none⟩) n c,vi a,vi b,vi pv] w λe w'=>∃m:Nat,e=ab4 (vi m)/\a<m/\m<=b/\∃G',US w g n G w' G':=by
 have H:=az (US.refl h);clear h;go_in;obtain⟨jb,hj⟩:∃j:Nat,(b:Int)-1=j:=⟨b-1,aa⟩;go_upto_region 1 with fail;go_cut [24] from 11 to 24 (λ_ wx=>Hid (US w g n G wx (swp G a pv)))
 case first =>
  have qa:(a:Int)<(n:Int):=aa;have qpv:(pv:Int)<(n:Int):=aa;obtain⟨Qe,Qf,sv,ci,lH,cj,lI,hs,f1,f2⟩:=H.o.row.two (a) (pv) aa aa;go_region;all_goals
   go_wp2;go_meet;exact az (by rw[<-lH.o,<-lI.o];exact(H.o.drewN _).swap aa aa)
 case rest =>
 have H1:=hcut;clear hcut;generalize wc=H1w at*;obtain⟨Ws,H1e⟩:∃zz,swp G a pv=zz:=⟨_,rfl⟩;rw[H1e]at H1;clear H1e;go_upto_block 0 with fail;go_cut [9,10] from 29 to 82 (λv9 v10 wx=>∃(i j:Nat) (Gk:Nat->Nat),v9=vi i/\v10=vi j/\(a+1<=i/\i<=b)/\Hid (US w g n G wx Gk))
 case first =>
  go_wp2_with fail;go_loopg [9,10] (jb+2-(a+1)) (λk v9 v10 wr=>∃(i j:Nat) (Gk:Nat->Nat),v9=vi i/\v10=vi j/\(a+1<=i/\i<=b/\i<=j+2/\a<=j/\j<b)/\j+2-i<=k/\Hid (US w g n G wr Gk))
  case atStart=>exact⟨a+1,jb,Ws,by first|rfl|go_num|(congr 1<;>omega),by first|rfl|(congr 1<;>omega),aa,aj,H1⟩
  case round =>
   obtain⟨i0,j0,Gk,rfl,rfl,hbd,hk,HK⟩:=hrel;go_upto_block 2 with fail;go_cut [9] from 29 to 82 (λv wx=>∃i:Nat,v=vi i/\(a+1<=i/\i0<=i/\i<=j0+2/\i<=b)/\Hid (US w g n G wx Gk))
   case first =>
    go_wp2_with fail;go_loopg [9] (j0+2-i0) (λk v wr=>∃i:Nat,v=vi i/\(a+1<=i/\i0<=i/\i<=j0+2/\i<=b)/\(j0+2-i)<=k/\Hid (US w g n G wr Gk))
    case atStart=>exact⟨i0,by first|rfl|go_num|(congr 1;omega),aa,aj,HK⟩
    case round =>
     obtain⟨i,rfl,hb,hk,HI⟩:=hrel;by_cases hij:i<=j0
     ·have hd:(i:Int)<=(j0:Int):=aa;have qi:(i:Int)<(n:Int):=aa;have qa:(a:Int)<(n:Int):=aa;obtain⟨Gu,ca,JA⟩:=HI.o.row.kn (a) aa;obtain⟨cbv,cb,JB⟩:=HI.o.row.kn (i) aa;go_wp2_with fail;go_quiet (first|(go_at_call 190;refine af1 (fw _ _ _)));generalize (!decide (Gu<cbv))=tt;cases tt
      ·go_wp2;go_meet;exact⟨i,rfl,aa,az (HI.o.drewN _)⟩
      go_wp2_with fail;go_roundg ((j0+2-(i+1)))
      case measure=>omega
      case rel=>exact⟨(i+1),by first|rfl|go_num|(congr 1;omega),aa,aj,az (HI.o.drewN _)⟩
     have hd:decide ((i:Int)<=(j0:Int))=false:=decide_eq_false aa;go_wp2_with fail;go_quiet (fail);go_wp2;go_meet;exact⟨i,rfl,aa,az (HI.o.drewN _)⟩
   case rest =>
   obtain⟨i,rfl,H5b,H5⟩:=hcut;generalize wc=H5w at*;go_upto_block 4 with fail;go_cut [10] from 29 to 82 (λv wx=>∃j:Nat,v=vi j/\(i<=j+2/\j<=j0/\a<=j)/\Hid (US w g n G wx Gk))
   case first =>
    go_wp2_with fail;go_loopg [10] (j0+2-i) (λk v wr=>∃j:Nat,v=vi j/\(i<=j+2/\j<=j0/\a<=j)/\(j+2-i)<=k/\Hid (US w g n G wr Gk))
    case atStart=>exact⟨j0,by first|rfl|go_num|(congr 1;omega),aa,aj,H5⟩
    case round =>
     obtain⟨j,rfl,hb,hk,HI⟩:=hrel;by_cases hij:i<=j
     ·have hd:(i:Int)<=(j:Int):=aa;have qj:(j:Int)<(n:Int):=aa;have qa:(a:Int)<(n:Int):=aa;obtain⟨Gu,ca,JA⟩:=HI.o.row.kn (a) aa;obtain⟨cbv,cb,JB⟩:=HI.o.row.kn (j) aa;go_wp2_with fail;go_quiet (first|(go_at_call 190;refine af1 (fw _ _ _)));generalize (decide (Gu<cbv))=tt;cases tt
      ·go_wp2;go_meet;exact⟨j,rfl,aa,az (HI.o.drewN _)⟩
      go_wp2_with fail;go_roundg (((j-1)+2-i))
      case measure=>omega
      case rel=>exact⟨(j-1),by first|rfl|go_num|(congr 1;omega),aa,aj,az (HI.o.drewN _)⟩
     have hd:decide ((i:Int)<=(j:Int))=false:=decide_eq_false aa;go_wp2_with fail;go_quiet (fail);go_wp2;go_meet;exact⟨j,rfl,aa,az (HI.o.drewN _)⟩
   case rest =>
   obtain⟨j,rfl,H6b,H6⟩:=hcut;generalize wc=H6w at*;by_cases hij:j<i
   ·go_wp2;go_meet;exact⟨i,j,Gk,rfl,rfl,aa,H6⟩
   go_wp2_with fail;go_upto_region 8 with fail;go_cut [78] from 29 to 82 (λ_ wx=>Hid (US w g n G wx (swp Gk i j)))
   case first =>
    have qi:(i:Int)<(n:Int):=aa;have qj:(j:Int)<(n:Int):=aa;obtain⟨Qe,Qf,sv,ci,lH,cj,lI,hs,f1,f2⟩:=H6.o.row.two (i) (j) aa aa;go_region;all_goals
     go_wp2;go_meet;exact az (by rw[<-lH.o,<-lI.o];exact(H6.o.drewN _).swap aa aa)
   case rest =>
   have H7:=hcut;clear hcut;generalize wc=H7w at*;obtain⟨H7g,ZV⟩:∃zz,swp Gk i j=zz:=⟨_,rfl⟩;rw[ZV]at H7;clear ZV;go_wp2_with fail;go_roundg (j-1+2-(i+1))
   case measure=>omega
   case rel=>exact⟨i+1,j-1,H7g,by go_num,by first|rfl|(congr 1;omega),aa,aj,H7⟩
 case rest =>
 obtain⟨i,j,Gk,rfl,rfl,hbd,H8⟩:=hcut;generalize wc=H8w at*;go_wp2;go_ret;exact⟨i,rfl,aa,aa,Gk,H8.o⟩
def JC (h:UR w g n G)(c lo hi first:Nat)(hlo:lo<=n)(hhi:first+hi<=n)(hn:n<1000000) :
  ac4 prog 211 #[aco (some ⟨g,0,none⟩) n c,vi lo,vi hi,vi first] w (UP w g n G):=by
 have H:=az (US.refl h);clear h;go_in;go_wp2_with fail;go_loopg [8] (n-lo) (λk v8 wr=>∃(r:Nat) (Gk:Nat->Nat),v8=vi r/\r<=n/\n-r<=k/\Hid (US w g n G wr Gk))
 case atStart=>exact⟨lo,G,rfl,aa,aa,H⟩
 case round =>
  obtain⟨r,Gk,rfl,hrn,hk,HK⟩:=hrel;go_upto_region 2 with fail;obtain⟨ch,hch⟩:∃ch:Nat,2*(r:Int)+1=ch:=⟨2*r+1,aa⟩;rw[hch];by_cases hlt:ch<hi
  ·go_wp2_with fail;by_cases hg:ch+1<hi;have hd:(ch:Int)+1<(hi:Int):=aa;have c1:wr.cell? ⟨g,first+ch,none⟩=some (vw (Gk (first+ch))):=HK.o.row.cell aa;have c2:wr.cell? ⟨g,first+ch+1,none⟩=some (vw (Gk (first+ch+1))):=HK.o.row.cell aa;have pw:adk.wrap ((first:Int)+(ch:Int))=(first:Int)+(ch:Int):=adl _ aa;have p0:(0:Int)<=(first:Int)+(ch:Int):=aa;have pn:(first:Int)+(ch:Int)<(n:Int):=aa;have pt:((first:Int)+(ch:Int)).toNat=first+ch:=aa;have qw:adk.wrap ((first:Int)+(ch:Int)+1)=(first:Int)+(ch:Int)+1:=adl _ aa;have q0:(0:Int)<=(first:Int)+(ch:Int)+1:=aa
   have qn:(first:Int)+(ch:Int)+1<(n:Int):=aa;have qt:((first:Int)+(ch:Int)+1).toNat=first+ch+1:=aa;obtain⟨x,hx⟩:∃x,Gk (first+ch)=x:=⟨_,rfl⟩;obtain⟨y,hy⟩:∃y,Gk (first+ch+1)=y:=⟨_,rfl⟩;rw[hx]at c1;rw[hy]at c2;clear hx hy;go_quiet (first|(go_at_call 190;refine af1 (fw _ _ _)));clear c1 c2 pw p0 pn pt qw q0 qn qt;by_cases hl:x<y;go_upto_region 5 with fail;obtain⟨DL,Vn⟩:∃DL:Nat,(ch:Int)+1=DL:=⟨ch+1,aa⟩;rw[Vn];rotate_left
   go_upto_region 5 with fail;obtain⟨DL,Vn⟩:∃DL:Nat,(ch:Int)=DL:=⟨ch,rfl⟩;rw[Vn];rotate_left
   have hd:decide ((ch:Int)+1<(hi:Int))=false:=decide_eq_false aa;go_quiet (fail);go_upto_region 5 with fail;obtain⟨DL,Vn⟩:∃DL:Nat,(ch:Int)=DL:=⟨ch,rfl⟩;rw[Vn];all_goals
    have zG:=az (HK.o.drewN nq);generalize wr.drewN nq=wq at*;have c3:wq.cell? ⟨g,first+r,none⟩=some (vw (Gk (first+r))):=zG.o.row.cell aa;have c4:wq.cell? ⟨g,first+DL,none⟩=some (vw (Gk (first+DL))):=zG.o.row.cell aa;have rw:adk.wrap ((first:Int)+(r:Int))=(first:Int)+(r:Int):=adl _ aa;have r0:(0:Int)<=(first:Int)+(r:Int):=aa;have rn:(first:Int)+(r:Int)<(n:Int):=aa;have rt:((first:Int)+(r:Int)).toNat=first+r:=aa;have sw:adk.wrap ((first:Int)+(DL:Int))=(first:Int)+(DL:Int):=adl _ aa;have s0:(0:Int)<=(first:Int)+(DL:Int):=aa
    have sn:(first:Int)+(DL:Int)<(n:Int):=aa;have st:((first:Int)+(DL:Int)).toNat=first+DL:=aa;obtain⟨z,hz⟩:∃z,Gk (first+r)=z:=⟨_,rfl⟩;obtain⟨u,hu⟩:∃u,Gk (first+DL)=u:=⟨_,rfl⟩;rw[hz]at c3;rw[hu]at c4;have HZ:=az hz;have HU:=az hu;clear hz hu;go_quiet (first|(go_at_call 190;refine af1 (fw _ _ _)));generalize (!decide (z<u))=tt;cases tt
    ·go_wp2_with fail;have f1:=zG.o.row.frozen (first+r);have f2:=zG.o.row.frozen (first+DL);go_region;all_goals
      go_wp2_with fail;go_roundg (n-DL)
      case measure=>omega
      case rel=>exact⟨DL,swp Gk (first+r) (first+DL),rfl,aa,aj,az (by rw[<-HZ.o,<-HU.o];exact(zG.o.drewN _).swap aa aa)⟩
    go_wp2_with fail;refine ac5 (agl rfl _ _ _) rfl ?_;exact⟨rfl,Gk,zG.o.drewN _⟩
  go_wp2_with fail;go_end0;exact⟨rfl,Gk,HK.o⟩
def Vo (h:UR w g n G)(c a b:Nat)(hab:a<b)(hb:b<=n)(hn:n<1000000) :
  ac4 prog 185 #[aco (some ⟨g,0,none⟩) n c,vi a,vi b] w (UP w g n G):=by
 have H:=az (US.refl h);clear h;go_in;obtain⟨hi,hhi⟩:∃hi:Nat,(b:Int)-(a:Int)=hi:=⟨b-a,aa⟩;obtain⟨q,hq⟩:∃q:Nat,((hi:Int)-1).tdiv 2=q:=⟨(hi-1)/2,by rw[show (hi:Int)-1=((hi-1:Nat):Int) by omega];rfl⟩;have hq2:q<=n:=by
  have h1:((hi:Int)-1).tdiv 2=((hi:Int)-1)/2:=ae3 aa;rw[h1]at hq;omega
 go_upto_block 0 with fail;go_cut [9] from 18 to 26 (λ_ wx=>∃Gk:Nat->Nat,Hid (US w g n G wx Gk))
 case first =>
  go_wp2_with fail;go_loopg [9] (q+1) (λk v9 wr=>∃(i:Nat) (Gk:Nat->Nat),v9=.int .i64 ((i:Int)-1)/\i<=q+1/\i<=k/\Hid (US w g n G wr Gk))
  case atStart=>exact⟨q+1,G,by first|rfl|(congr 1<;>omega),aj,aj,H⟩
  case round =>
   obtain⟨i,Gk,rfl,hiq,hk,HK⟩:=hrel;by_cases h0:0<i
   ·obtain⟨k,hk1⟩:∃k:Nat,(i:Int)-1=k:=⟨i-1,aa⟩;rw[hk1];go_wp2_with (go_at_call 211;refine(JC HK.o.row c k hi a aa aa hn).mono ?_;rintro e w2 ⟨rfl,G2,h2⟩);have H2:=az (HK.o.trans h2);clear h2;go_wp2_with fail;go_roundg k
    case measure=>omega
    case rel=>exact⟨k,G2,by first|rfl|(congr 1<;>omega),aa,aj,H2⟩
   have hd:¬(0:Int)<=(i:Int)-1:=aa;go_wp2;go_meet;exact⟨Gk,HK⟩
 case rest =>
 obtain⟨G1,H1⟩:=hcut;generalize wc=H1w at*;clear hq;go_wp2_with fail;go_loopg [10] hi (λk v10 wr=>∃(i:Nat) (Gk:Nat->Nat),v10=.int .i64 ((i:Int)-1)/\i<=hi/\i<=k/\Hid (US w g n G wr Gk))
 case atStart=>exact⟨hi,G1,by first|rfl|(congr 1<;>omega),aj,aj,H1⟩
 case round =>
  obtain⟨i,Gk,rfl,hiq,hk,HK⟩:=hrel;by_cases h0:0<i
  ·obtain⟨k,hk1⟩:∃k:Nat,(i:Int)-1=k:=⟨i-1,aa⟩;rw[hk1];go_wp2_with fail;go_upto_region 10 with fail;go_cut [50] from 29 to 55 (λ_ wx=>Hid (US w g n G wx (swp Gk a (a+k))))
   case first =>
    have qa:(a:Int)<(n:Int):=aa;have pw:adk.wrap ((a:Int)+(k:Int))=(a:Int)+(k:Int):=adl _ aa;have p0:(0:Int)<=(a:Int)+(k:Int):=aa;have pn:(a:Int)+(k:Int)<(n:Int):=aa;have pt:((a:Int)+(k:Int)).toNat=a+k:=aa;obtain⟨Qe,Qf,sv,ci,lH,cj,lI,hs,f1,f2⟩:=HK.o.row.two (a) ((a+k)) aa aa;go_region;all_goals
     go_wp2;go_meet;exact az (by rw[<-lH.o,<-lI.o];exact(HK.o.drewN _).swap aa aa)
   case rest =>
   have H7:=hcut;clear hcut;generalize wc=H7w at*;obtain⟨H7g,ZV⟩:∃zz,swp Gk a (a+k)=zz:=⟨_,rfl⟩;rw[ZV]at H7;clear ZV;go_wp2_with (go_at_call 211;refine(JC H7.o.row c 0 k a aa aa hn).mono ?_;rintro e w2 ⟨rfl,G2,h2⟩);have H2:=az (H7.o.trans h2);clear h2;go_wp2_with fail;go_roundg k
   case measure=>omega
   case rel=>exact⟨k,G2,by first|rfl|(congr 1<;>omega),aa,aj,H2⟩
  have hd:¬(0:Int)<=(i:Int)-1:=aa;go_wp2_with fail;go_end0;exact⟨rfl,Gk,HK.o⟩
structure NJ (w:acL)(g n:Nat)(G:Nat->Nat)(s m d:Nat)(w':acL):Prop where
 row:UR w' g n G
 blk:∃m':Nat,m'<=m+d/\aD w' s 3 #[vi m']
 aJ:aP (λk=>k=s) w w'
variable{w w' w'':acL}{g n:Nat}{G:Nat->Nat}{s m d d':Nat}
def NJ.trans {m':Nat}(h:aP (λk=>k=s) w w')(hm:m'<=m+d)(k:NJ w' g n G s m' d' w''):NJ w g n G s m (d+d') w'':=by
 obtain⟨m2,h1,h2⟩:=k.blk;exact⟨k.row,⟨m2,aa,h2⟩,h.trans k.aJ (λ_ _ e=>e)⟩
def Cq (h:UR w g n G)(c a b s m L U:Nat)(hs:aD w s 3 #[vi m])(hgs:g≠s)(hm:m<1000)(ha:L<=a/\a<U)(hb:L<=b/\b<U)(hU:U<=n)(hn:n<1000000) :
  ac4 prog 236 #[aco (some ⟨g,0,none⟩) n c,vi a,vi b,.pointer (some ⟨s,0,none⟩)] w λe w'=>∃x y:Nat,e=ab4 (adg #[vi x,vi y])/\(L<=x/\x<U)/\(L<=y/\y<U)/\NJ w g n G s m 1 w':=by
 have H:=az h;have HS:=az hs;clear h hs;have q1:(a:Int)<(n:Int):=aa;have q2:(b:Int)<(n:Int):=aa;obtain⟨x,hx⟩:∃x,G a=x:=⟨_,rfl⟩;obtain⟨y,hy⟩:∃y,G b=y:=⟨_,rfl⟩;have c1:w.cell? ⟨g,a,none⟩=some (vw x):=by rw[<-hx];exact H.o.cell aa
 have c2:w.cell? ⟨g,b,none⟩=some (vw y):=by rw[<-hy];exact H.o.cell aa
 clear hx hy;go_in;go_wp2_with fail;go_quiet (first|(go_at_call 190;refine af1 (fw _ _ _)));have HW:Hid (UR (w.drewN nq) g n G/\aD (w.drewN nq) s 3 #[vi m]/\aP (λk=>k=s) w (w.drewN nq)) :=
  az ⟨H.o.old ⟨rfl,rfl,rfl,aj,λ_ _=>rfl⟩,HS.o,⟨rfl,rfl,rfl,aj,λ_ _ _=>rfl⟩⟩
 clear c1 c2;generalize w.drewN nq=w1 at*;generalize (decide (y<x))=tt;cases tt
 ·go_wp2;go_ret2;exact⟨a,b,rfl,ha,hb,HW.o.1,⟨m,aa,HW.o.2.1⟩,HW.o.2.2⟩
 have d0:w1.cell? ⟨s,0,none⟩=some (vi m):=HW.o.2.1.cell 0;have d1:=HW.o.2.1.frozen 0;go_wp2;go_ret2;have hc:aP (λk=>k=s) w1 (w1.setCell ⟨s,0,none⟩ (vi ((m+1:Nat):Int))):=⟨rfl,rfl,rfl,ai,λk hk hn=>acN.heap_setCell w1 _ _ k hn⟩;exact⟨b,a,rfl,hb,ha,by
  obtain⟨cs,h1,h2⟩:=HW.o.1
  exact⟨cs,h1.aJ hc hgs,h2⟩,⟨m+1,aj,HW.o.2.1.bB 0 _⟩,HW.o.2.2.trans hc (λ_ _ e=>e)⟩
def NK (h:UR w g n G)(c a b z s m L U:Nat)(hs:aD w s 3 #[vi m])(hgs:g≠s)(hm:m<900)(ha:L<=a/\a<U)(hb:L<=b/\b<U)(hz:L<=z/\z<U)(hU:U<=n)(hn:n<1000000) :
  ac4 prog 213 #[aco (some ⟨g,0,none⟩) n c,vi a,vi b,vi z,.pointer (some ⟨s,0,none⟩)] w λe w'=>∃x:Nat,e=ab4 (vi x)/\(L<=x/\x<U)/\NJ w g n G s m 3 w':=by
 go_in;go_wp2_with fail;refine(Cq h c a b s m L U hs hgs aa ha hb hU hn).mono ?_;rintro e w1 ⟨x1,y1,rfl,hx1,hy1,s1⟩;obtain⟨m1,hm1,b1⟩:=s1.blk;have S1:=az s1;have B1:=az b1;clear s1 b1 hs h;go_wp2_with fail;refine(Cq S1.o.row c y1 z s m1 L U B1.o hgs aa hy1 hz hU hn).mono ?_;rintro e w2 ⟨x2,y2,rfl,hx2,hy2,s2⟩;have S2:=az (NJ.trans S1.o.aJ hm1 s2);clear s2;obtain⟨m2,hm2,b2⟩:=S2.o.blk;have B2:=az b2;clear b2;go_wp2_with fail;refine(Cq S2.o.row c x1 x2 s m2 L U B2.o hgs aa hx1 hx2 hU hn).mono ?_;rintro e w3 ⟨x3,y3,rfl,hx3,hy3,s3⟩;have S3:=az (NJ.trans S2.o.aJ hm2 s3)
 clear s3;go_wp2;go_ret;exact⟨y3,rfl,hy3,S3.o⟩
def Cs (h:UR w g n G)(c a s m L U:Nat)(hs:aD w s 3 #[vi m])(hgs:g≠s)(hm:m<900)(ha:L+1<=a/\a+1<U)(hU:U<=n)(hn:n<1000000) :
  ac4 prog 212 #[aco (some ⟨g,0,none⟩) n c,vi a,.pointer (some ⟨s,0,none⟩)] w λe w'=>∃x:Nat,e=ab4 (vi x)/\(L<=x/\x<U)/\NJ w g n G s m 3 w':=by
 obtain⟨a0,ha0⟩:∃a0:Nat,(a:Int)-1=a0:=⟨a-1,aa⟩;obtain⟨a1,ha1⟩:∃a1:Nat,(a:Int)+1=a1:=⟨a+1,aa⟩;have b0:L<=a0/\a0<U:=aa;have b1:L<=a/\a<U:=aa;have b2:L<=a1/\a1<U:=aa;go_in;go_wp2_with fail;refine(NK h c a0 a a1 s m L U hs hgs hm b0 b1 b2 hU hn).mono ?_;rintro e w1 ⟨x1,rfl,hx1,s1⟩;go_wp2;go_ret;exact⟨x1,rfl,hx1,s1⟩
def Yw (h:UR w g n G)(c a b:Nat)(hab:a+8<=b)(hb:b<=n)(hn:n<1000000) :
  ac4 prog 187 #[aco (some ⟨g,0,none⟩) n c,vi a,vi b] w λe w'=>∃(x:Nat) (t:Int),e=ab4 (adg #[vi x,vi t])/\(a<=x/\x<b)/\US w g n G w' G:=by
 obtain⟨l,hl⟩:∃l:Nat,(b:Int)-(a:Int)=l:=⟨b-a,aa⟩;obtain⟨q,hq⟩:∃q:Nat,(l:Int).tdiv 4=q:=⟨l/4,rfl⟩;have hq2:2<=q/\4*q<=l:=by
  have h1:(l:Int).tdiv 4=(l:Int)/4:=ae3 aa;rw[h1]at hq;omega
 obtain⟨i,hi⟩:∃i:Nat,(a:Int)+(q:Int)=i:=⟨a+q,aa⟩;obtain⟨j,hj⟩:∃j:Nat,(a:Int)+(q:Int)*2=j:=⟨a+q*2,aa⟩;obtain⟨k,hk⟩:∃k:Nat,(a:Int)+(q:Int)*3=k:=⟨a+q*3,aa⟩;have h8:(8:Int)<=(l:Int):=aa;have hgw:g<w.heap.size:=h.lt;have H:=az h;clear h;go_in;go_upto_region 7 with fail;have hgs:g≠w.heap.size:=aa;have HS:Hid (NJ (w.alloc (ach #[vi 0] 3)) g n G w.heap.size 0 0 (w.alloc (ach #[vi 0] 3))) :=
  az ⟨H.o.old ax,⟨0,aj,aD.new _ _ _⟩,aP.refl _ _⟩
 have HB:Hid (acN w.heap.size w (w.alloc (ach #[vi 0] 3))):=az ax;generalize w.alloc (ach #[vi 0] 3)=w0 at*;obtain⟨s,hsz⟩:∃s,w.heap.size=s:=⟨_,rfl⟩;rw[hsz]at HS hgs ⊢;have DC:=az hsz;clear hsz;go_upto_if 34 with fail;go_cut [10,11,12] from 34 to 43 (λv10 v11 v12 wx=>∃x1 x2 x3:Nat,v10=vi x1/\v11=vi x2/\v12=vi x3/\(a<=x1/\x1<b)/\(a<=x2/\x2<b)/\(a<=x3/\x3<b)/\Hid (NJ w0 g n G s 0 9 wx))
 case first =>
  by_cases h50:50<=l
  ·have b1:a+1<=i/\i+1<b:=aa;have b2:a+1<=j/\j+1<b:=aa;have b3:a+1<=k/\k+1<b:=aa;obtain⟨m0,hm0,e0⟩:=HS.o.blk;have E0:=az e0;clear e0;go_wp2_with fail;refine(Cs HS.o.row c i s m0 a b E0.o hgs aa b1 hb hn).mono ?_;rintro e w1 ⟨x1,rfl,hx1,s1⟩;have S1:=az (NJ.trans HS.o.aJ hm0 s1);obtain⟨m1,hm1,e1⟩:=s1.blk;have E1:=az e1;clear s1 e1;go_wp2_with fail;refine(Cs S1.o.row c j s m1 a b E1.o hgs aa b2 hb hn).mono ?_;rintro e w2 ⟨x2,rfl,hx2,s2⟩;have S2:=az (NJ.trans S1.o.aJ (show m1<=0+(0+3) by omega) s2);obtain⟨m2,hm2,e2⟩:=s2.blk;have E2:=az e2;clear s2 e2
   go_wp2_with fail;refine(Cs S2.o.row c k s m2 a b E2.o hgs aa b3 hb hn).mono ?_;rintro e w3 ⟨x3,rfl,hx3,s3⟩;have S3:=az (NJ.trans S2.o.aJ (show m2<=0+(0+3+3) by omega) s3);clear s3;go_wp2;go_meet;exact⟨x1,x2,x3,rfl,rfl,rfl,hx1,hx2,hx3,S3⟩
  go_wp2;go_meet;obtain⟨m0,hm0,e0⟩:=HS.o.blk;exact⟨i,j,k,rfl,rfl,rfl,aa,aa,aa,az ⟨HS.o.row,⟨m0,aa,e0⟩,HS.o.aJ⟩⟩
 case rest =>
 obtain⟨x1,x2,x3,rfl,rfl,rfl,hx1,hx2,hx3,HC⟩:=hcut;obtain⟨m0,hm0,e0⟩:=HC.o.blk;have E0:=az e0;clear e0 hi hj hk hq;go_wp2_with fail;refine(NK HC.o.row c x1 x2 x3 s m0 a b E0.o hgs aa hx1 hx2 hx3 hb hn).mono ?_;rintro e w1 ⟨x,rfl,hx,s1⟩;have S1:=az (NJ.trans HC.o.aJ hm0 s1);obtain⟨m1,hm1,e1⟩:=s1.blk;have HU:Hid (US w g n G w1 G):=az (((US.refl H.o).far hgw (F:=λ_=>False) (aP.of_below HB.o) (λ_ e=>e.elim)).far hgw S1.o.aJ (λk e=>by have:=DC.o;omega));have d0:w1.cell? ⟨s,0,none⟩=some (vi m1):=e1.cell 0;clear s1 e1 S1;by_cases e0:m1=0
 ·subst e0;go_wp2;go_ret2;exact⟨x,1,rfl,hx,HU.o⟩
 by_cases e12:m1=12
 ·subst e12;go_wp2;go_ret2;exact⟨x,2,rfl,hx,HU.o⟩
 have hd0:((m1:Int)==0)=false:=by simp;omega
 have aob:((m1:Int)==12)=false:=by simp;omega
 go_wp2;go_ret2;exact⟨x,0,rfl,hx,HU.o⟩
def PB (w:acL)(g n:Nat)(G:Nat->Nat)(e:Ending)(w':acL):Prop:=∃t:Bool,e=ab4 (acg t)/\∃G',US w g n G w' G'
def Vp (h:UR w g n G)(c a b:Nat)(hab:a<b)(hb:b<=n)(hn:n<1000000) :
  ac4 prog 189 #[aco (some ⟨g,0,none⟩) n c,vi a,vi b] w (PB w g n G):=by
 have H:=az (US.refl h);clear h;go_in;go_upto_block 0 with fail;go_wp2_with fail;go_loopg [7,8] 5 (λk v7 v8 wr=>∃(i j:Nat) (Gk:Nat->Nat),v7=vi i/\v8=vi j/\(a+1<=i/\i<=b)/\(j<=5/\5-j<=k)/\Hid (US w g n G wr Gk))
 case atStart=>exact⟨a+1,0,G,by first|rfl|go_num,rfl,aa,aa,H⟩
 case round =>
  obtain⟨i0,j0,Gk,rfl,rfl,hbd,hk,HK⟩:=hrel;by_cases hj5:j0<5
  ·have aji:(j0:Int)<5:=aa;go_upto_block 2 with fail;go_cut [7] from 13 to 132 (λv wx=>∃i:Nat,v=vi i/\(a+1<=i/\i<=b)/\Hid (US w g n G wx Gk))
   case first =>
    go_wp2_with fail;go_loopg [7] (b-i0) (λk v wr=>∃i:Nat,v=vi i/\(a+1<=i/\i<=b)/\b-i<=k/\Hid (US w g n G wr Gk))
    case atStart=>exact⟨i0,rfl,aa,aj,HK⟩
    case round =>
     obtain⟨i,rfl,hb2,hk2,HI⟩:=hrel;by_cases hij:i<b
     ·have hd:(i:Int)<(b:Int):=aa;have qi:(i:Int)<(n:Int):=aa;have pw:adk.wrap ((i:Int)-1)=(i:Int)-1:=adl _ aa;have p0:(0:Int)<=(i:Int)-1:=aa;have pn:(i:Int)-1<(n:Int):=aa;have pt:((i:Int)-1).toNat=i-1:=aa;obtain⟨Gu,ca,JA⟩:=HI.o.row.kn (i) aa;obtain⟨cbv,cb,JB⟩:=HI.o.row.kn ((i-1)) aa;go_wp2_with fail;go_quiet (first|(go_at_call 190;refine af1 (fw _ _ _)));generalize (!decide (Gu<cbv))=tt;cases tt
      ·go_wp2;go_meet;exact⟨i,rfl,aa,az (HI.o.drewN _)⟩
      go_wp2_with fail;go_roundg (b-(i+1))
      case measure=>omega
      case rel=>exact⟨i+1,by first|rfl|go_num|(congr 1;omega),aa,aj,az (HI.o.drewN _)⟩
     have hd:decide ((i:Int)<(b:Int))=false:=decide_eq_false aa;go_wp2_with fail;go_quiet (fail);go_wp2;go_meet;exact⟨i,rfl,aa,az (HI.o.drewN _)⟩
   case rest =>
   obtain⟨i,rfl,hib,H1⟩:=hcut;generalize wc=w1 at*;clear HK;by_cases he:i=b
   ·have he2:((i:Int)==(b:Int))=true:=by simp[he]
    go_wp2;go_ret;exact⟨true,rfl,Gk,H1.o⟩
   have he2:((i:Int)==(b:Int))=false:=by simp;omega
   by_cases h50:b-a<50
   ·have ajj:(b:Int)-(a:Int)<50:=aa;go_wp2;go_ret;exact⟨false,rfl,Gk,H1.o⟩
   have ajj:¬(b:Int)-(a:Int)<50:=aa;go_wp2_with fail;go_upto_region 11 with fail;go_cut [60] from 13 to 132 (λ_ wx=>Hid (US w g n G wx (swp Gk i (i-1))))
   case first =>
    have qi:(i:Int)<(n:Int):=aa;have pw:adk.wrap ((i:Int)-1)=(i:Int)-1:=adl _ aa;have p0:(0:Int)<=(i:Int)-1:=aa;have pn:(i:Int)-1<(n:Int):=aa;have pt:((i:Int)-1).toNat=i-1:=aa;obtain⟨Qe,Qf,sv,ci,lH,cj,lI,hs,f1,f2⟩:=H1.o.row.two (i) ((i-1)) aa aa;go_region;all_goals
     go_wp2;go_meet;exact az (by rw[<-lH.o,<-lI.o];exact(H1.o.drewN _).swap aa aa)
   case rest =>
   have H2:=hcut;clear hcut;generalize wc=H2w at*;obtain⟨H2g,H2e⟩:∃zz,swp Gk i (i-1)=zz:=⟨_,rfl⟩;rw[H2e]at H2;clear H2e;go_upto_if 61 with fail;go_cut [9] from 13 to 132 (λ_ wx=>∃Gk:Nat->Nat,Hid (US w g n G wx Gk))
   case first =>
    by_cases h2:(2:Int)<=(i:Int)-(a:Int)
    ·obtain⟨j1,hj1⟩:∃j1:Nat,(i:Int)-1=j1:=⟨i-1,aa⟩;go_upto_block 4 with fail;go_wp2_with fail;go_loopg [9] j1 (λk v wr=>∃(j:Nat) (Gk:Nat->Nat),v=vi j/\j<b/\j<=k/\Hid (US w g n G wr Gk))
     case atStart=>exact⟨j1,H2g,by first|rfl|(congr 1<;>omega),aa,aj,H2⟩
     case round =>
      obtain⟨j,Gk,rfl,hjb,hk,HK⟩:=hrel;by_cases h1:1<=j
      ·have hc1:(1:Int)<=(j:Int):=aa;have qj:(j:Int)<(n:Int):=aa;have pw:adk.wrap ((j:Int)-1)=(j:Int)-1:=adl _ aa;have p0:(0:Int)<=(j:Int)-1:=aa;have pn:(j:Int)-1<(n:Int):=aa;have pt:((j:Int)-1).toNat=j-1:=aa;obtain⟨Gu,ca,JA⟩:=HK.o.row.kn (j) aa;obtain⟨cbv,cb,JB⟩:=HK.o.row.kn ((j-1)) aa;go_upto_region 16 with fail;go_quiet (first|(go_at_call 190;refine af1 (fw _ _ _)));have zG:=az (HK.o.drewN nq);clear ca cb;generalize wr.drewN nq=wq at*;generalize (!decide (Gu<cbv))=tt;cases tt
       ·go_wp2_with fail;clear qj pw p0 pn pt;go_upto_region 17 with fail;have qj:(j:Int)<(n:Int):=aa;have pw:adk.wrap ((j:Int)-1)=(j:Int)-1:=adl _ aa;have p0:(0:Int)<=(j:Int)-1:=aa;have pn:(j:Int)-1<(n:Int):=aa;have pt:((j:Int)-1).toNat=j-1:=aa;obtain⟨Qe,ci,lH⟩:=zG.o.row.kn (j) aa;obtain⟨Qf,cj,lI⟩:=zG.o.row.kn ((j-1)) aa;have f1:=zG.o.row.frozen j;have f2:=zG.o.row.frozen (j-1);go_region;all_goals
         go_wp2_with fail;go_roundg (j-1)
         case measure=>omega
         case rel=>exact⟨j-1,swp Gk j (j-1),by first|rfl|go_num|(congr 1;omega),aa,aa,az (by rw[<-lH.o,<-lI.o];exact(zG.o.drewN _).swap aa aa)⟩
       go_wp2;go_meet;exact⟨Gk,zG⟩
      go_wp2;go_meet;exact⟨Gk,HK⟩
    go_wp2;go_meet;exact⟨H2g,H2⟩
   case rest =>
   obtain⟨G3,H3⟩:=hcut;generalize wc=w3 at*;by_cases h2:(2:Int)<=(b:Int)-(i:Int)
   ·obtain⟨j1,hj1⟩:∃j1:Nat,(i:Int)+1=j1:=⟨i+1,aa⟩;go_upto_block 6 with fail;go_wp2_with fail;go_loopg [10] (b-j1) (λk v wr=>∃(j:Nat) (Gk:Nat->Nat),v=vi j/\(1<=j/\j<=b)/\b-j<=k/\Hid (US w g n G wr Gk))
    case atStart=>exact⟨j1,G3,by first|rfl|(congr 1<;>omega),aa,aj,H3⟩
    case round =>
     obtain⟨j,Gk,rfl,hjb,hk3,HK⟩:=hrel;by_cases h1:j<b
     ·have hc1:(j:Int)<(b:Int):=aa;have qj:(j:Int)<(n:Int):=aa;have pw:adk.wrap ((j:Int)-1)=(j:Int)-1:=adl _ aa;have p0:(0:Int)<=(j:Int)-1:=aa;have pn:(j:Int)-1<(n:Int):=aa;have pt:((j:Int)-1).toNat=j-1:=aa;obtain⟨Gu,ca,JA⟩:=HK.o.row.kn (j) aa;obtain⟨cbv,cb,JB⟩:=HK.o.row.kn ((j-1)) aa;go_upto_region 22 with fail;go_quiet (first|(go_at_call 190;refine af1 (fw _ _ _)));have zG:=az (HK.o.drewN nq);clear ca cb;generalize wr.drewN nq=wq at*;generalize (!decide (Gu<cbv))=tt;cases tt
      ·go_wp2_with fail;clear qj pw p0 pn pt;go_upto_region 23 with fail;have qj:(j:Int)<(n:Int):=aa;have pw:adk.wrap ((j:Int)-1)=(j:Int)-1:=adl _ aa;have p0:(0:Int)<=(j:Int)-1:=aa;have pn:(j:Int)-1<(n:Int):=aa;have pt:((j:Int)-1).toNat=j-1:=aa;obtain⟨Qe,ci,lH⟩:=zG.o.row.kn (j) aa;obtain⟨Qf,cj,lI⟩:=zG.o.row.kn ((j-1)) aa;have f1:=zG.o.row.frozen j;have f2:=zG.o.row.frozen (j-1);go_region;all_goals
        go_wp2_with fail;go_roundg (b-(j+1))
        case measure=>omega
        case rel=>exact⟨j+1,swp Gk j (j-1),by first|rfl|go_num|(congr 1;omega),aa,aa,az (by rw[<-lH.o,<-lI.o];exact(zG.o.drewN _).swap aa aa)⟩
      go_wp2_with fail;go_roundg (5-(j0+1))
      case measure=>omega
      case rel=>exact⟨i,j0+1,Gk,rfl,by first|rfl|go_num,aa,aa,zG⟩
     go_wp2_with fail;go_roundg (5-(j0+1))
     case measure=>omega
     case rel=>exact⟨i,j0+1,Gk,rfl,by first|rfl|go_num,aa,aa,HK⟩
   go_wp2_with fail;go_roundg (5-(j0+1))
   case measure=>omega
   case rel=>exact⟨i,j0+1,G3,rfl,by first|rfl|go_num,aa,aa,H3⟩
  have aji:¬(j0:Int)<5:=aa;go_wp2;go_ret;exact⟨false,rfl,Gk,HK.o⟩
open Go.Sort
def Vq (s x:Nat)(hx:x<18446744073709551616)(w:acL)(h:aD w s 236 #[.int .u64 x]) :
  ac4 prog 179 #[.pointer (some ⟨s,0,none⟩)] w λe w'=>∃y:Nat,y<18446744073709551616/\e=ab4 (.int .u64 y)/\aD w' s 236 #[.int .u64 y]/\aP (λk=>k=s) w w':=by
 refine(agm λD=>AnyS.xorshift_NextIn laysNext D s 0 x hx w (h.cell 0) (h.frozen 0)).mono ?_;rintro e w' ⟨rfl,rfl⟩;have hl:xorNextN x<18446744073709551616:=by
  have lA:x ^^^ (x*8192%18446744073709551616)<18446744073709551616:=Nat.xor_lt_two_pow (n:=64) hx aa;have lB:=Nat.xor_lt_two_pow (n:=64) lA (show (x ^^^ (x*8192%18446744073709551616))/128<2 ^ 64 by omega);exact Nat.xor_lt_two_pow (n:=64) lB aa
 exact⟨_,hl,rfl,h.bB 0 _,⟨rfl,rfl,rfl,by simp[acL.drewN],λk hk hn=>acN.heap_setCell w _ _ k (λe=>hn e)⟩⟩
def Yx (l:Nat)(hl:1<=l/\l<1000000)(w:acL) :
  ac4 prog 178 #[vi l] w λe w'=>∃m:Nat,1<=m/\m<=2*l/\e=ab4 (.int .u64 m)/\w'=w:=by
 refine(agm λD=>AnyS.nextPowerOfTwoIn laysPow D l aa w).mono ?_;rintro e w' ⟨rfl,rfl⟩;refine⟨1 <<< bitsLen l,?_,?_,rfl,rfl⟩;rw[Nat.one_shiftLeft];exact Nat.one_le_two_pow;rw[Nat.one_shiftLeft];cases hk:bitsLen l with
 |zero=>simp;omega
 |succ k =>
  have h1:¬bitsLen l<=k:=aa;rw[bitsLen_le_iff]at h1;rw[Nat.pow_succ];omega
def acb (x m:Nat)(hx:x<18446744073709551616)(hm:1<=m/\m<18446744073709551616):∃z:Nat,z<m/\bits .and .u64 (x:Int) ((m:Int)-1)=(z:Int):=by
 refine⟨x &&& (m-1),?_,?_⟩;have:=Nat.and_le_right (n:=x) (m:=m-1);omega;rw[show ((m:Int)-1)=((m-1:Nat):Int) by omega];exact bits_and_u64_nat x (m-1) hx aa
def Yy (h:UR w g n G)(c a b:Nat)(hab:a+8<=b)(hb:b<=n)(hn:n<1000000) :
  ac4 prog 186 #[aco (some ⟨g,0,none⟩) n c,vi a,vi b] w (UP w g n G):=by
 obtain⟨l,hl⟩:∃l:Nat,(b:Int)-(a:Int)=l:=⟨b-a,aa⟩;obtain⟨q,hq⟩:∃q:Nat,(l:Int).tdiv 4=q:=⟨l/4,rfl⟩;have hq2:2<=q/\4*q<=l:=by
  have h1:(l:Int).tdiv 4=(l:Int)/4:=ae3 aa;rw[h1]at hq;omega
 obtain⟨i0,hi0⟩:∃i:Nat,(a:Int)+(q:Int)*2=i:=⟨a+q*2,aa⟩;obtain⟨i1,hi1⟩:∃i:Nat,(i0:Int)-1=i:=⟨i0-1,aa⟩;obtain⟨i2,hi2⟩:∃i:Nat,(i0:Int)+1=i:=⟨i0+1,aa⟩;have h8:(8:Int)<=(l:Int):=aa;have Dv:acS.u64.wrap (l:Int)=l:=by simp[acS.wrap,acS.bits,acS.signed];omega
 have hgw:g<w.heap.size:=h.lt;have H:=az h;clear h;go_in;go_upto_region 3 with fail;have hgs:g≠w.heap.size:=aa;have HK0:Hid (US w g n G (w.alloc (ach #[.int .u64 l] 236)) G/\aD (w.alloc (ach #[.int .u64 l] 236)) w.heap.size 236 #[.int .u64 l]) :=
  az ⟨(US.refl H.o).old ax,aD.new _ _ _⟩
 generalize w.alloc (ach #[.int .u64 l] 236)=w0 at*;obtain⟨s,hs⟩:∃s,w.heap.size=s:=⟨_,rfl⟩;rw[hs]at hgs HK0 ⊢;have DC:=az hs;clear hs;go_upto_block 0 with (go_at_call 178;refine(Yx l aa _).mono ?_;rintro e w1 ⟨m,hm1,hm2,rfl,rfl⟩);go_wp2_with fail;go_loopg [9] (i2+1-i1) (λk v wr=>∃(i x:Nat) (Gk:Nat->Nat),v=vi i/\(i1<=i/\i<=i2+1)/\i2+1-i<=k/\x<18446744073709551616/\Hid (US w g n G wr Gk/\aD wr s 236 #[.int .u64 x]))
 case atStart=>exact⟨i1,l,G,rfl,aa,aj,aa,HK0⟩
 case round =>
  obtain⟨i,x,Gk,rfl,hbd,hk,hx,HK⟩:=hrel;by_cases hi:i<=i2
  ·have hii:(i:Int)<=(i2:Int):=aa;have hmw:acS.u64.wrap ((m:Int)-1)=(m:Int)-1:=by simp[acS.wrap,acS.bits,acS.signed];omega
   have iH:=az (Vq s x hx _ HK.o.2);go_upto_region 7 with fail;go_cut [10] from 26 to 64 (λv wx=>∃(z y:Nat),v=vi z/\z<m/\y<18446744073709551616/\Hid (US w g n G wx Gk/\aD wx s 236 #[.int .u64 y]))
   case first =>
    go_wp2_with (go_at_call 179;refine iH.o.mono ?_;rintro e w2 ⟨y,hy,rfl,hb2,hc2⟩;obtain⟨z,hz,hzz⟩:=acb y m hy aa;have aoc:adk.wrap (z:Int)=z:=adl _ aa);go_meet;refine⟨z,y,rfl,hz,hy,az ⟨?_,hb2⟩⟩;exact HK.o.1.far hgw hc2 (λk e=>by have:=DC.o;omega)
   case rest =>
   obtain⟨z,y,rfl,hz,hy,H2⟩:=hcut;generalize wc=w2 at*;clear HK iH hmw;go_upto_if 43 with fail;go_cut [10] from 26 to 64 (λv wx=>∃o:Nat,v=vi o/\o<l/\Hid (US w g n G wx Gk/\aD wx s 236 #[.int .u64 y]))
   case first =>
    by_cases hzl:l<=z
    ·go_wp2;go_meet;exact⟨z-l,by congr 1;omega,aa,H2⟩
    go_wp2;go_meet;exact⟨z,rfl,aa,H2⟩
   case rest =>
   obtain⟨o,rfl,ho,H3⟩:=hcut;generalize wc=w3 at*;clear H2;go_upto_region 10 with fail;have qi:(i:Int)<(n:Int):=aa;have pw:adk.wrap ((a:Int)+(o:Int))=(a:Int)+(o:Int):=adl _ aa;have p0:(0:Int)<=(a:Int)+(o:Int):=aa;have pn:(a:Int)+(o:Int)<(n:Int):=aa;have pt:((a:Int)+(o:Int)).toNat=a+o:=aa;obtain⟨Qe,cie⟩:∃v,Gk i=v:=⟨_,rfl⟩;have ci:w3.cell? ⟨g,i,none⟩=some (vw Qe):=by rw[<-cie];exact H3.o.1.row.cell aa
   have lH:=az cie;clear cie;obtain⟨Qf,cj,lI⟩:=H3.o.1.row.kn (a+o) aa;obtain⟨sv,hs⟩:=H3.o.1.row.Jz i Qf (t:=a+o) aa;have f1:=H3.o.1.row.frozen i;have f2:=H3.o.1.row.frozen (a+o);go_region;all_goals
    go_wp2_with fail;go_roundg (i2+1-(i+1))
    case measure=>omega
    case rel=>exact⟨i+1,y,swp Gk i (a+o),by first|rfl|go_num|(congr 1;omega),aa,aj,hy,az ⟨by rw[<-lH.o,<-lI.o];exact(H3.o.1.drewN _).swap aa aa,((show aD (w3.drewN _) s 236 #[.int .u64 y] from H3.o.2).far (p:=⟨g,i,none⟩) (λe=>hgs e.symm) _).far (p:=⟨g,a+o,none⟩) (λe=>hgs e.symm) _⟩⟩
  have hii:¬(i:Int)<=(i2:Int):=aa;go_wp2_with fail;go_end0;exact⟨rfl,Gk,HK.o.1⟩
def Yz (c:Nat)(hn:n<1000000):∀(N a b lim:Nat) (G:Nat->Nat) (w:acL),b-a<N->a<=b->b<=n->lim<1000000->UR w g n G ->
  ac4 prog 165 #[aco (some ⟨g,0,none⟩) n c,vi a,vi b,vi lim] w (UP w g n G):=by
 intro N;induction N with
 |zero=>intro a b lim G w h;omega
 |succ N ih =>
  intro a b lim G w hN hab hbn hlim h;have IH:=az ih;have H:=az (US.refl h);clear h ih;go_in;go_wp2_with fail;go_loopg [1,2,3,8,9] (b-a) (λk v1 v2 v3 v8 v9 wr=>∃(x y lim:Nat) (p q:Bool) (Gk:Nat->Nat),v1=vi x/\v2=vi y/\v3=vi lim/\v8=acg p/\v9=acg q/\(x<=y/\y<=n/\lim<1000000)/\(y-x<=b-a/\y-x<=k)/\Hid (US w g n G wr Gk))
  case atStart=>exact⟨a,b,lim,true,true,G,rfl,rfl,rfl,rfl,rfl,aa,aa,H⟩
  case round =>
   obtain⟨x,y,Vr,p,q,Gk,rfl,rfl,rfl,rfl,rfl,hbd,hk,HK⟩:=hrel;obtain⟨l,hl⟩:∃l:Nat,(y:Int)-(x:Int)=l:=⟨y-x,aa⟩;by_cases h12:l<=12
   ·have ajl:(l:Int)<=12:=aa;go_wp2_with (go_at_call 184;refine(Yt HK.o.row c x y aa aa hn).mono ?_;rintro e w2 ⟨rfl,G2,h2⟩);refine ac5 (agl rfl _ _ _) rfl ?_;exact⟨rfl,G2,HK.o.trans h2⟩
   have ajl:¬(l:Int)<=12:=aa;by_cases hl0:Vr=0
   ·have afa:((Vr:Int)==0)=true:=by simp[hl0]
    go_wp2_with (go_at_call 185;refine(Vo HK.o.row c x y aa aa hn).mono ?_;rintro e w2 ⟨rfl,G2,h2⟩);refine ac5 (agl rfl _ _ _) rfl ?_;exact⟨rfl,G2,HK.o.trans h2⟩
   have afa:((Vr:Int)==0)=false:=by simp;omega
   go_upto_if 35 with fail;go_cut [3] from 19 to 133 (λv wx=>∃(JD:Nat) (G2:Nat->Nat),v=vi JD/\JD<1000000/\Hid (US w g n G wx G2))
   case first =>
    cases p
    ·go_wp2_with (go_at_call 186;refine(Yy HK.o.row c x y aa aa hn).mono ?_;rintro e w2 ⟨rfl,G2,h2⟩;have H2:=az (HK.o.trans h2);clear h2);go_meet;exact⟨Vr-1,G2,by congr 1;omega,aa,H2⟩
    go_wp2;go_meet;exact⟨Vr,Gk,rfl,aa,HK⟩
   case rest =>
   obtain⟨JD,G2,rfl,alJ,H2⟩:=hcut;generalize wc=w2 at*;clear HK afa hl0;go_upto_region 10 with fail;go_cut [11,12] from 19 to 133 (λv11 v12 wx=>∃(pv:Nat) (t:Int),v11=vi pv/\v12=vi t/\(x<=pv/\pv<y)/\Hid (US w g n G wx G2))
   case first =>
    go_wp2_with (go_at_call 187;refine(Yw H2.o.row c x y aa aa hn).mono ?_;rintro e w3 ⟨pv,t,rfl,hpv,h3⟩;have H3:=az (H2.o.trans h3);clear h3);go_meet;exact⟨pv,t,rfl,rfl,hpv,H3⟩
   case rest =>
   obtain⟨pv,t,rfl,rfl,hpv,H3⟩:=hcut;generalize wc=w3 at*;clear H2;go_upto_if 50 with fail;go_cut [11,12] from 19 to 133 (λv11 v12 wx=>∃(pv:Nat) (t:Int) (G3:Nat->Nat),v11=vi pv/\v12=vi t/\(x<=pv/\pv<y)/\Hid (US w g n G wx G3))
   case first =>
    by_cases ht2:t=2
    ·subst ht2;obtain⟨y1,hy1⟩:∃y1:Nat,(y:Int)-1=y1:=⟨y-1,aa⟩;obtain⟨d,hd⟩:∃d:Nat,(pv:Int)-(x:Int)=d:=⟨pv-x,aa⟩;obtain⟨pv2,hpv2⟩:∃d2:Nat,(y1:Int)-(d:Int)=d2:=⟨y1-d,aa⟩;go_wp2_with (go_at_call 188;refine(Yu H3.o.row c x y aa aa hn).mono ?_;rintro e w4 ⟨rfl,G4,h4⟩;have H4:=az (H3.o.trans h4);clear h4);go_meet;exact⟨pv2,1,G4,rfl,rfl,aa,H4⟩
    have ht2b:(t==2)=false:=by simp[ht2]
    go_wp2;go_meet;exact⟨pv,t,G2,rfl,rfl,hpv,H3⟩
   case rest =>
   clear hpv H3;obtain⟨pv,t,G3,rfl,rfl,hpv,H3⟩:=hcut;generalize wc=w4 at*;go_upto_region 15 with fail;go_cut [68] from 19 to 133 (λv wx=>∃tt:Bool,v=acg tt/\Hid (US w g n G wx G3))
   case first =>
    cases p
    ·go_wp2;go_meet;exact⟨_,rfl,H3⟩
    cases q
    ·go_wp2;go_meet;exact⟨_,rfl,H3⟩
    go_wp2;go_meet;exact⟨_,rfl,H3⟩
   case rest =>
   clear H3;obtain⟨tt,rfl,H3⟩:=hcut;generalize wc=w5 at*;go_upto_if 68 with fail;go_cut [72] from 19 to 133 (λ_ wx=>∃G4:Nat->Nat,Hid (US w g n G wx G4))
   case first =>
    cases tt
    ·go_wp2;go_meet;exact⟨G3,H3⟩
    go_wp2_with (go_at_call 189;refine(Vp H3.o.row c x y aa aa hn).mono ?_;rintro e w6 ⟨t2,rfl,G4,h4⟩;have H4:=az (H3.o.trans h4);clear h4;cases t2)
    ·go_wp2;go_meet;exact⟨G4,H4⟩
    go_wp2_with fail;refine ac5 (agl rfl _ _ _) rfl ?_;exact⟨rfl,G4,H4.o⟩
   case rest =>
   clear H3;obtain⟨G4,H4⟩:=hcut;generalize wc=w6 at*;go_upto_region 17 with fail;go_cut [87] from 19 to 133 (λv wx=>∃tt:Bool,v=acg tt/\Hid (US w g n G wx G4))
   case first =>
    by_cases hx0:0<x
    ·have hd:(0:Int)<(x:Int):=aa;have pw:adk.wrap ((x:Int)-1)=(x:Int)-1:=adl _ aa;have p0:(0:Int)<=(x:Int)-1:=aa;have pn:(x:Int)-1<(n:Int):=aa;have pt:((x:Int)-1).toNat=x-1:=aa;have qp:(pv:Int)<(n:Int):=aa;obtain⟨Gu,cae⟩:∃v,G4 (x-1)=v:=⟨_,rfl⟩;have ca:w6.cell? ⟨g,x-1,none⟩=some (vw Gu):=by rw[<-cae];exact H4.o.row.cell aa
     clear cae;obtain⟨cbv,cbe⟩:∃v,G4 pv=v:=⟨_,rfl⟩;have cb:w6.cell? ⟨g,pv,none⟩=some (vw cbv):=by rw[<-cbe];exact H4.o.row.cell aa
     clear cbe;go_quiet (first|(go_at_call 190;refine af1 (fw _ _ _)));go_wp2;go_meet;exact⟨_,rfl,az (H4.o.drewN _)⟩
    have hd:decide ((0:Int)<(x:Int))=false:=decide_eq_false aa;go_quiet (fail);go_wp2;go_meet;exact⟨_,rfl,az (H4.o.drewN _)⟩
   case rest =>
   clear H4;obtain⟨tu,rfl,H4⟩:=hcut;generalize wc=w7 at*;cases tu
   ·go_upto_region 21 with (go_at_call 192;refine(Vm H4.o.row c x y pv aa hpv aa hn).mono ?_;rintro e w8 ⟨m,t2,rfl,hm1,hm2,G5,h5⟩;have H5:=az (H4.o.trans h5);clear h5);obtain⟨ll,hll⟩:∃ll:Nat,(m:Int)-(x:Int)=ll:=⟨m-x,aa⟩;obtain⟨rr,hrr⟩:∃rr:Nat,(y:Int)-(m:Int)=rr:=⟨y-m,aa⟩;obtain⟨tq,htq⟩:∃tq:Nat,(l:Int).tdiv 8=tq:=⟨l/8,rfl⟩;obtain⟨m1,hmm⟩:∃m1:Nat,(m:Int)+1=m1:=⟨m+1,aa⟩;by_cases hlr:ll<rr
    ·have ajm:(ll:Int)<(rr:Int):=aa;go_wp2_with (go_at_call 165;refine(IH.o x m JD G5 _ aa aa aa aa H5.o.row).mono ?_;rintro e w9 ⟨rfl,G6,h6⟩;have H6:=az (H5.o.trans h6);clear h6);go_roundg (y-m1)
     case measure=>omega
     case rel=>exact⟨m1,y,JD,_,t2,G6,rfl,rfl,rfl,rfl,rfl,aa,aa,H6⟩
    have ajm:¬(ll:Int)<(rr:Int):=aa;go_wp2_with (go_at_call 165;refine(IH.o m1 y JD G5 _ aa aa aa aa H5.o.row).mono ?_;rintro e w9 ⟨rfl,G6,h6⟩;have H6:=az (H5.o.trans h6);clear h6);go_roundg (m-x)
    case measure=>omega
    case rel=>exact⟨x,m,JD,_,t2,G6,rfl,rfl,rfl,rfl,rfl,aa,aa,H6⟩
   go_wp2_with (go_at_call 191;refine(Yv H4.o.row c x y pv aa hpv aa hn).mono ?_;rintro e w8 ⟨m,rfl,hm1,hm2,G5,h5⟩;have H5:=az (H4.o.trans h5);clear h5);go_roundg (y-m)
   case measure=>omega
   case rel=>exact⟨m,y,JD,p,q,G5,rfl,rfl,rfl,rfl,rfl,aa,aa,H5⟩
end us
namespace po
open RowKit mgr ft pl ino nd
structure TkJ (w0:acL)(k l D nb y:Nat)(ro:Obj)(its:List It)(F:Nat->Prop)(W:acL):Prop where
 rd:gD k w0 W
 cnt:aD W nb 3 #[vi its.length]
 box:aD W y 80 #[.func (.yield l) #[] #[]]
 lJ:W.heap[l]?=some ro
 nW:W.heap[D]?=some (adL (some []))
 foot:∀m,F m↔m=nb\/m=l\/m=y
def acd (l nb:Nat)(ro:Obj):Prop :=
 ∀(n a lv:Nat) (W:acL),n<2000->aD W nb 3 #[vi n]->W.heap[l]?=some ro->YieldAt agb 2 prog l #[vi a,vi lv] W λe W' =>
  e=ab4 (acg true)/\aD W' nb 3 #[vi (n+1:Nat)]/\W'.heap[l]?=some ro/\aP (λm=>m=nb\/m=l) W W'
section
variable{aA:Nat}{w0 w w':acL}{q g k l D nb y:Nat}{ro:Obj}{p:Po}{i:PI.bF}{K:Nat->Prop}
def Vs (h:PQ aA w0 q K p)(hk:fF w0 q k)(hnb:w0.heap.size<=nb/\nb<D/\D<l)(hy:l<y):zw aA q K p k (l+1) (TkJ w0 k l D nb y ro):=by
 have hkl:k<w0.heap.size:=h.lt _ (h.pK hk).1;have hlt:∀{W:acL} {g:Nat} {o:Obj},W.heap[g]?=some o->g<W.heap.size:=λh=>(aaz.1 h).1;refine⟨λhj=>h.OW hk hj.rd,λhj=>h.j6 hk hj.rd,λhj n hn=>?_,λhj hr=>?_,λhj hg hr=>?_,λhj hb _ hB0 hnf hc=>?_⟩;rcases (hj.foot n).1 hn with e|e|e;rw[e];exact hj.cnt.lt;rw[e];exact hlt hj.lJ;rw[e];exact hj.box.lt;exact⟨hj.rd.trans hr,hj.cnt.aJ hr.1 aa,hj.box.aJ hr.1 aa,(hr.1.block l (hlt hj.lJ) aa).trans hj.lJ,(hr.1.block D (hlt hj.nW) aa).trans hj.nW,hj.foot⟩;refine⟨hj.rd.far ⟨hg.os,hg.tape,hg.output,hg.size,λn hn e=>hg.block n hn (λe2=>?_)⟩ hkl,rQ hj.cnt hg (λr e=>(hr r e).2),rQ hj.box hg (λr e=>(hr r e).2),(hg.block l (hlt hj.lJ) (λe=>?_)).trans hj.lJ,(hg.block D (hlt hj.nW) (λe=>?_)).trans hj.nW,hj.foot⟩
 have:=(hr n e2.symm).1;omega;have:=(hr l e.symm).1;omega;have:=(hr D e.symm).1;omega;exact⟨hj.rd.far (hc.mono (λn _ e=>aa)) hkl,hj.cnt.aJ hc aa,hj.box.aJ hc (λe=>hnf ((hj.foot _).2 (acm (acm e.symm)))),(hc.block l (hlt hj.lJ) aa).trans hj.lJ,(hc.block D (hlt hj.nW) aa).trans hj.nW,hj.foot⟩
def LP (hkl:k<w0.heap.size)(hnb:w0.heap.size<=nb/\nb<D/\D<l)(hy:l<y)(R:acd l nb ro):Cb 38 y k (l+1) (TkJ w0 k l D nb y ro) (λ_ _ _=>False):=by
 intro pre x F W hlen _ hJ hB;obtain⟨n,at',lv⟩:=x;dsimp only;have HJ:=az hJ;obtain⟨fn,tmps,assign,body,hyd,hR⟩:=R pre.length at' lv W hlen hJ.cnt hJ.lJ;have HRR:=az hR;have c0:W.cell? ⟨y,0,none⟩=some (.func (.yield l) #[] #[]):=hJ.box.cell 0;clear hR hJ hlen;refine agn.1 (callsIn_of_wp (F:=agb) (n:=3) func38 rfl trivial ?_ rfl);simp only[ntmps38,af7,adV,afO,agi,agj,af8,af9,agd,aga,afl,age];gi_wp2;refine HRR.o.mono ?_;rintro e W' ⟨rfl,h1,h2,h3⟩
 have HTG:Hid (mO (l+1) k F W F W'):=az ⟨h3.mono (λm _ e=>ack ((HJ.o.foot m).2 (by rcases e with e|e;exact ack e;exact acm (ack e)))),λ_ e=>ack e,⟨h3.size,λj o hj ho _=>(h3.block j (aaz.1 ho).1 (λe=>aa)).trans ho⟩⟩;have HJ2:Hid (TkJ w0 k l D nb y ro (pre++[(n,at',lv)]) F W'):=az
  ⟨HJ.o.rd.far (h3.mono (λm _ e=>aa)) hkl,by rw[List.length_append];exact h1,HJ.o.box.aJ h3 aa,h2,(h3.block D (aaz.1 HJ.o.nW).1 aa).trans HJ.o.nW,HJ.o.foot⟩
 clear h1 h2 h3 hyd HRR c0;gi_wp2;go_ret;exact⟨_,HTG.o,ack ⟨rfl,HJ2.o⟩⟩
def Qg (q:Nat)(i:PI.bF)(hi:i.direct.length=6):ac4 prog 15 #[ptr q,dS i] w λe w'=>e=ab4 (.func (.func 36) #[] #[ptr w.heap.size,ptr (w.heap.size+1)])/\w'=(w.alloc (ach #[ptr q] 26)).alloc (ach (j4 i) 29):=by
 obtain⟨kd,ln,sz,dl,sg,db⟩:=i;obtain⟨d0,d1,d2,d3,d4,d5,hdl⟩:=six (l:=dl) hi;clear hi;subst hdl;simp only[dS,j4];go_in;go_wp2;go_ret;exact⟨ai,rfl⟩
def LQ (h:PQ aA w0 q K p)(hk:fF w0 q k)(hi:p.wf i)(hnb:w0.heap.size<=nb/\nb<D/\D<l)(R:acd l nb ro){pb ib:Nat}(hb:acN w0.heap.size w0 w)(hpb:aD w pb 26 #[ptr q])(hib:aD w ib 29 (j4 i))
  (hn:aD w nb 3 #[vi 0]) (hl:w.heap[l]?=some ro) (hd:w.heap[D]?=some (adL (some []))) :
  ac4 prog 36 #[.func (.yield l) #[] #[],ptr pb,ptr ib] w λe W=>e=ab4 (adg #[])/\gD k w0 W/\aD W nb 3 #[vi (p.jy i).length]/\W.heap[l]?=some ro/\W.heap[D]?=some (adL (some [])):=by
 have H:=az h;have HK:=az hk;have HI:=az hi;have YA:=az hnb;have HR:=az R;have HB:=az hb;have KI:=az hpb;have HN:=az hn;have HL:=az hl;have HD:=az hd;have jU:Hid (k<w0.heap.size):=az (h.lt _ (h.pK hk).1);have hil:=hi.len;clear h hk hi hnb R hb hpb hn hl hd;obtain⟨kd,ln,sz,dl,sg,db⟩:=i;obtain⟨d0,d1,d2,d3,d4,d5,hdl⟩:=six (l:=dl) hil;clear hil;subst hdl;simp only[j4]at hib;have HIB:=az hib;clear hib;go_in;go_upto_region 1 with fail;refine mD λw1 HB1 NL=>?_
 have HLY:Hid (l<w.heap.size):=az (aaz.1 HL.o).1;have afc:=az (KI.o.old HB1.o);have afd:=az (HIB.o.old HB1.o);obtain⟨y,hy⟩:∃y,y=w.heap.size:=⟨_,rfl⟩;rw[<-hy]at NL HLY ⊢;have HSY:=az hy;clear hy;have p0:w1.cell? ⟨pb,0,none⟩=some (ptr q):=afc.o.cell 0;obtain⟨x0,x1,x2,x3,x4,x5,x6,x7,x8,x9,JW⟩:=nT afd.o;have HB3:Hid (acN w.heap.size w (w1.alloc (ach #[ptr q,vi kd,vi ln,vi sz,vi d0,vi d1,vi d2,vi d3,vi d4,vi d5,vi sg,vi db] 74))):=az (HB1.o.alloc HB1.o.size _);have GN:Hid (ac4 prog 37 #[ptr w1.heap.size,.func (.func 38) #[] #[ptr y]] (w1.alloc (ach #[ptr q,vi kd,vi ln,vi sz,vi d0,vi d1,vi d2,vi d3,vi d4,vi d5,vi sg,vi db] 74)) (aaX k (l+1) (TkJ w0 k l D nb y ro) (λ_ _ _=>False) ([]++p.jy ⟨kd,ln,sz,[d0,d1,d2,d3,d4,d5],sg,db⟩) (λm=>m=nb\/m=l\/m=y) (w1.alloc (ach #[ptr q,vi kd,vi ln,vi sz,vi d0,vi d1,vi d2,vi d3,vi d4,vi d5,vi sg,vi db] 74)))):=az (by
  have h1:=NL.o.lt
  have h2:=HB1.o.size
  have h3:=HB.o.size
  have h4:=YA.o
  have h5:=jU.o
  have h6:=HLY.o
  have h7:=HB3.o.size
  have h8:=HSY.o
  refine Nb (Vs H.o HK.o YA.o HLY.o) false_stay (dI func38 ah rfl) (LP jU.o YA.o HLY.o HR.o) aa HI.o ?_ aa (aD.new w1 _ _) aa (Nat.zero_le _)
  exact⟨gD.of_below (HB.o.trans (HB3.o.mono HB.o.size)),HN.o.old HB3.o,NL.o.alloc _,(HB3.o.block l (aaz.1 HL.o).1).trans HL.o,(HB3.o.block D (aaz.1 HD.o).1).trans HD.o,λ_=>Iff.rfl⟩)
 clear HB1 NL afc afd;go_wp2_with fail;refine GN.o.mono ?_;rintro e w4 ⟨rfl,F',hg,hj⟩;have hj2:TkJ w0 k l D nb y ro (p.jy ⟨kd,ln,sz,[d0,d1,d2,d3,d4,d5],sg,db⟩) F' w4:=by
  rcases hj with hj|hj;exact hj;exact hj.elim λ_ h=>h.2.elim
 have HE:=az hj2;clear hg hj hj2 GN HB3 p0 x0 x1 x2 x3 x4 x5 x6 x7 x8 x9 JW;go_wp2_with fail;go_end0;exact⟨rfl,HE.o.rd,HE.o.cnt,HE.o.lJ,HE.o.nW⟩
end
attribute [local go_sem] agh
def ja (fn:FuncId)(a:Act)(ps:Array Tmp)(assign body:Code)(D:Nat)(st:LoopState)(pe:Option Code):Loop:={state:=st,pending:=pe,fn,tmps:=a.tmps,params:=ps,assign,body,defers:=D}
def ic {P:Program}{g:Operand}{ps:Array Tmp}{assign body:Code}{Q:Exit->Act->acL->Prop}{a:Act}{w:acL}{n:Nat}(h1:1<=n){gf:Nat}{lb:Array acK}(hg:a.eval g=.func (.func gf) #[] lb)
  (eg:∀args w,(callFunc gf args).run P w=.ok (.enter gf args) w) (R:acL->Prop)
  (hcall:∀fn,ac4 P gf (#[.func (.yield (w.heap.size+1)) #[] #[]]++lb) ((w.alloc (adL (some []))).alloc (.loop (ja fn a ps assign body w.heap.size .ready none))) λe W =>
   (∃v,e=ab4 v)/\W.heap[w.heap.size+1]?=some (.loop (ja fn a ps assign body w.heap.size .ready none))/\W.heap[w.heap.size]?=some (adL (some []))/\R W)
  (hdone:∀W o r,R W->W.heap[w.heap.size]?=some (adL (some []))->W.heap[w.heap.size+1]?=some (.loop r)->Q .normal {a with defers:={target:=.collected w.heap.size,args:=#[]}::a.defers} (W.putObj (w.heap.size+1) o)) :
  (Code.rangeFunc g ps assign body).wpIn agb n P Q a w:=by
 refine wpIn_rangeFunc ?_;intro fn hfn;refine⟨w.heap.size+1,[{target:=.collected w.heap.size,args:=#[]}],(w.alloc (adL (some []))).alloc (.loop (ja fn a ps assign body w.heap.size .ready none)),{target:=.fn (.func gf) lb,args:=#[.func (.yield (w.heap.size+1)) #[] #[]]},
  (w.alloc (adL (some []))).alloc (.loop (ja fn a ps assign body w.heap.size .ready none)),gf,#[.func (.yield (w.heap.size+1)) #[] #[]]++lb,(w.alloc (adL (some []))).alloc (.loop (ja fn a ps assign body w.heap.size .ready none)),?_,?_,?_,?_,λ_=>h1,?_⟩
 exact run_enterLoop_outer _ _ _ _ _
 ·simp only[resolve,hg];simp[go_sem]
 intro f' hf';trivial
 ·simp[invoke,go_sem,eg]
 refine(agn.2 (hcall fn)).mono ?_;rintro e W ⟨⟨v,rfl⟩,h2,h3,h4⟩;exact⟨none,_,run_endLoop h2 (by unfold ja;simp),hdone W _ _ h4 h3 h2⟩
def rY {P:Program}{l m:Nat}{rl:Loop}{W:acL}(hl:W.heap[l]?=some (.loop rl))(hr:rl.state=.ready)(hp:rl.pending=none){args:Array acK}(hs:args.size=rl.params.size){R:acL->Prop}
  (hbody:rl.assign.wpIn (Fence.wide.inRound l) m P (Exit.then (λa₁ w₁=>w₁.heap[l]?=some (.loop rl)/\rl.body.wpIn (Fence.wide.inRound l) m P (λex _ W3=>ex=.normal/\W3.heap[l]?=some (.loop {rl with state:=.busy})/\R (W3.putObj l (.loop rl))) a₁ (w₁.putObj l (.loop {rl with state:=.busy}))) (λ_ _ _=>False)) {tmps:=(rl.params.zip args).foldl (λtmps (t,a)=>tmps.setIfInBounds t a) rl.tmps,defers:=[]} W) :
  YieldAt agb m P l args W λe W'=>e=ab4 (acg true)/\R W':=by
 refine⟨rl.fn,_,rl.assign,rl.body,run_yield hl hs,roundIn_of_wpIn trivial (wpIn_mono hbody ?_)⟩;rintro e a1 w1 h;cases e with
 |normal =>
  obtain⟨h1,h2⟩:=h;refine⟨_,run_beginRound h1 hr,wpIn_mono h2 ?_⟩;rintro e2 a2 W3 ⟨rfl,h3,h4⟩;have h5:=run_endRound (P:=P) none h3;refine⟨_,_,h5,rfl,?_⟩;have:({({rl with state:=.busy}:Loop) with state:=if (none:Option Code).isNone then .ready else .done,pending:=none}:Loop)=rl:=by
   obtain⟨a,b,c,d,e,f,g,h⟩:=rl;cases hr;cases hp;rfl
  rw[this];exact h4
 |_=>exact h
section
variable{aA:Nat}{w w':acL}{q k:Nat}{p:Po}{i:PI.bF}{K:Nat->Prop}
def Gv {v0:acK}(tmps:Array acK)(h2:tmps[4]?=some v0):(results Tryz.f22 tmps).run prog w'=.ok v0 w':=by
 simp only[results,results22];simp[go_sem,h2]
def mi (h:PQ aA w q K p)(hk:fF w q k)(i:PI.bF)(hi:p.wf i):ac4 prog 22 #[ptr q,dS i] w λe w'=>e=ab4 (vi (p.jy i).length)/\gD k w w':=by
 have H:=az h;have HK:=az hk;have HI:=az hi;have jU:Hid (k<w.heap.size):=az (h.lt _ (h.pK hk).1);have hil:=hi.len;clear h hk hi;obtain⟨kd,ln,sz,dl,sg,db⟩:=i;obtain⟨d0,d1,d2,d3,d4,d5,hdl⟩:=six (l:=dl) hil;clear hil;subst hdl;refine agn.1 (callsIn_of_wp_marks (F:=agb) (n:=6) func22 rfl trivial (wpIn_wide.2 ?_) rfl);simp only[dS,j4,ntmps22,af7,adV,afO,agi,agj,af8,af9,agd,aga,afl,age];go_upto_region 1 with fail;refine mD λw1 HB1 lD=>?_
 obtain⟨x,hx⟩:∃x,x=w.heap.size:=⟨_,rfl⟩;rw[<-hx]at lD ⊢;clear hx;go_upto_region 2 with fail;have Kq:=az (aD.new w1 3 #[vi 0]);have HB2:Hid (acN w.heap.size w (w1.alloc (ach #[vi 0] 3))):=az (HB1.o.alloc HB1.o.size _);have lM:=az (lD.o.alloc (ach #[vi 0] 3));have JZ:Hid (w.heap.size<=w1.heap.size):=az HB1.o.size;change Code.wp _ _ _ _ (w1.alloc (ach #[vi 0] 3));generalize w1.alloc (ach #[vi 0] 3)=w2 at*;generalize w1.heap.size=nb at*;obtain⟨x0,x1,x2,x3,x4,x5,x6,x7,x8,x9,JW⟩:=nT lM.o;have HOW:=az (Qg (w:=w2) q ⟨kd,ln,sz,[d0,d1,d2,d3,d4,d5],sg,db⟩ rfl)
 simp only[dS,j4]at HOW;go_wp2_with fail;refine HOW.o.mono ?_;rintro e w3 ⟨rfl,hw3⟩;have HB3:Hid (acN w2.heap.size w2 w3):=az (by rw[hw3];exact ax.alloc ai _);have HP3:Hid (aD w3 w2.heap.size 26 #[ptr q]):=az (by rw[hw3];exact(aD.new w2 _ _).alloc _);have HI3:Hid (aD w3 (w2.heap.size+1) 29 (j4 ⟨kd,ln,sz,[d0,d1,d2,d3,d4,d5],sg,db⟩)):=az (by
  rw[hw3]
  have h:=aD.new (w2.alloc (ach #[ptr q] 26)) 29 (j4 ⟨kd,ln,sz,[d0,d1,d2,d3,d4,d5],sg,db⟩)
  rwa[size_alloc]at h)
 have Y9:=az (Kq.o.old HB3.o);have RJ:Hid (nb<w3.heap.size):=az Y9.o.lt;have HW3:=az (HB2.o.trans (HB3.o.mono HB2.o.size));clear hw3 HOW x0 x1 x2 x3 x4 x5 x6 x7 x8 x9 JW lM lD HB1;generalize w2.heap.size=pb at*;go_wp2_with fail;refine(wpIn_wide (n:=6)).1 ?_;refine ic (n:=6) aa (gf:=36) (lb:=#[ptr pb,ptr (pb+1)]) rfl (dI func36 ah rfl) (λW=>gD k w W/\aD W nb 3 #[vi (p.jy ⟨kd,ln,sz,[d0,d1,d2,d3,d4,d5],sg,db⟩).length]) ?hc ?hd
 case hc =>
  intro fn;generalize hro:Obj.loop (ja fn _ _ _ _ _ _ _)=ro at*;have pI:Hid (acN w3.heap.size w3 ((w3.alloc (adL (some []))).alloc ro)):=az (ax.alloc ai _);have hl4:((w3.alloc (adL (some []))).alloc ro).heap[w3.heap.size+1]?=some ro:=by
   have h:=agf (w3.alloc (adL (some []))) ro;rwa[acL.size_alloc]at h
  have hd4:((w3.alloc (adL (some []))).alloc ro).heap[w3.heap.size]?=some (adL (some [])):=(acN.heap_alloc _ _ _ ai).trans (agf w3 _);have Wd:Hid (acd (w3.heap.size+1) nb ro):=az (by
   subst hro
   intro n a lv W hn hb hl
   refine rY hl rfl rfl rfl ?_
   have HL:=az hl
   have YA:=az hb
   have FU:Hid (nb≠w3.heap.size+1):=az (by have:=RJ.o;omega)
   have ig:Hid (w3.heap.size+1<W.heap.size):=az (aaz.1 hl).1
   clear hl hb hl4 hd4 pI
   unfold ja at HL ⊢
   dsimp only at HL ⊢
   gi_wp2
   refine⟨HL.o,?_⟩
   generalize Dx:Obj.loop {state:=LoopState.busy,pending:=none,fn:=fn,tmps:=_,params:=_,assign:=_,body:=_,defers:=_}=ob
   generalize hor:Obj.loop {state:=LoopState.ready,pending:=none,fn:=fn,tmps:=_,params:=_,assign:=_,body:=_,defers:=_}=od
   have HB1:Hid (aD (W.putObj (w3.heap.size+1) ob) nb 3 #[vi n]):=az ((af4 FU.o).trans YA.o)
   have yK:Hid ((W.putObj (w3.heap.size+1) ob).heap[w3.heap.size+1]?=some ob):=az (agc ig.o)
   have yx:Hid (aP (λm=>m=w3.heap.size+1) W (W.putObj (w3.heap.size+1) ob)):=az ⟨rfl,rfl,rfl,by simp[af6],λm hm e=>af4 (λe2=>e e2)⟩
   clear HL Dx hor YA
   generalize W.putObj (w3.heap.size+1) ob=W1 at*
   have y0:W1.cell? ⟨nb,0,none⟩=some (vi n):=HB1.o.cell 0
   have f0:=HB1.o.frozen 0
   have r1:adk.wrap ((n:Int)+1)=(n:Int)+1:=adl _ aa
   gi_wp2
   have hb2:aD (W1.setCell ⟨nb,0,none⟩ (vi ((n:Int)+1))) nb 3 #[vi ((n:Int)+1)]:=HB1.o.bB 0 _
   have ho2:(W1.setCell ⟨nb,0,none⟩ (vi ((n:Int)+1))).heap[w3.heap.size+1]?=some ob:=(acN.heap_setCell _ _ _ _ (λe=>FU.o e.symm)).trans yK.o
   have hc2:aP (λm=>m=nb\/m=w3.heap.size+1) W (W1.setCell ⟨nb,0,none⟩ (vi ((n:Int)+1))):=(yx.o.mono (λm _ e=>.inr e)).setCell (p:=⟨nb,0,none⟩) (.inl (.inl rfl)) _
   have hl2:w3.heap.size+1<(W1.setCell ⟨nb,0,none⟩ (vi ((n:Int)+1))).heap.size:=(aaz.1 ho2).1
   refine⟨ho2,(af4 FU.o).trans hb2,agc hl2,hc2.trans (F':=λm=>m=w3.heap.size+1) ⟨rfl,rfl,rfl,ai,λm hm e=>af4 (λe2=>e e2)⟩ (λ_ _ e=>acm e)⟩)
  refine(LQ (D:=w3.heap.size) (l:=w3.heap.size+1) H.o HK.o HI.o ⟨JZ.o,RJ.o,aa⟩ Wd.o (HW3.o.trans (pI.o.mono HW3.o.size)) (HP3.o.old pI.o) (HI3.o.old pI.o) (Y9.o.old pI.o) hl4 hd4).mono ?_;rintro e W ⟨rfl,h1,h2,h3,h4⟩;exact⟨⟨_,rfl⟩,h3,h4,h1,h2⟩
 case hd =>
  intro W o r hR hD hl;have bK:=az hR.1;have YA:=az hR.2;have HWN:Hid (nb≠w3.heap.size+1/\nb≠w3.heap.size):=az (by have:=RJ.o;omega);have HC:Hid (aP (λm=>m=w3.heap.size+1) W (W.putObj (w3.heap.size+1) o)):=az ⟨rfl,rfl,rfl,by simp[af6],λm hm e=>af4 (λe2=>e e2)⟩;have HD:=az ((HC.o.block w3.heap.size (aaz.1 hD).1 aa).trans hD);clear hR hD hl;have ajn:=az (YA.o.aJ HC.o HWN.o.1);have ajo:=az (bK.o.far (HC.o.mono (λm _ e=>by rw[e];have h1:=RJ.o;have h2:=JZ.o;omega)) jU.o);clear HC YA bK;dsimp only
  generalize W.putObj (w3.heap.size+1) o=W2 at*;have y0:W2.cell? ⟨nb,0,none⟩=some (vi (p.jy ⟨kd,ln,sz,[d0,d1,d2,d3,d4,d5],sg,db⟩).length):=ajn.o.cell 0;go_wp2_with fail;refine di.ji (v:=vi (p.jy ⟨kd,ln,sz,[d0,d1,d2,d3,d4,d5],sg,db⟩).length) HD.o (Gv _ rfl) ⟨rfl,?_⟩;exact ajo.o.far ⟨rfl,rfl,rfl,by simp[af6],λm hm e=>af4 (λe2=>e (by have h1:=RJ.o;have h2:=JZ.o;omega))⟩ jU.o
end
end po
namespace us
open RowKit mgr ft po nd
attribute [local go_sem] agh
def Vt:(prog.info? 118).map (λi=>(i.zero,i.size,i.bytes))=some (some (vw 0),1,4):=ah
abbrev gB (w:acL)(b:Nat)(v:acK)(l:List Nat):Prop:=w.ownsRow b 118 1 v l.length (l.map λn=>vw n)
section
variable{w w':acL}{b0:Nat}{v:acK}{l:List Nat}
def gB.kept {row:Option Nat}(h:gB w b0 v l)(hg:w.grownBy w' row)(hn:∀r,row=some r->v.ownBlock≠some r):gB w' b0 v l :=
 acL.ownsRow.kept h hg (by
  cases hv:v.ownBlock with
  |none=>exact ack rfl
  |some g =>
   refine acm (λe=>?_)
   exact hn g e.symm hv)
def gB.old (h:gB w b0 v l)(hb:acN w.heap.size w w'):gB w' b0 v l :=
 h.kept (row:=none) (mP hb) (λr e=>by cases e)
def gB.lt (h:gB w b0 v l){g:Nat}(hg:v.ownBlock=some g):g<w.heap.size/\b0<=g/\∃cur,aD w g 118 cur:=by
 rcases h.2 with⟨rfl,_⟩|⟨g',cap,cur,rfl,hb,hh,_⟩;simp[acK.ownBlock]at hg;have:g'=g:=by simpa[acK.ownBlock] using hg
 subst this;have hb':aD w g' 118 cur:=hh;exact⟨hb'.lt,hb,cur,hb'⟩
def gB.aJ {F:Nat->Prop}(h:gB w b0 v l)(q:aP F w w')(hn:∀g,v.ownBlock=some g->¬F g):gB w' b0 v l:=by
 refine⟨h.1,?_⟩;rcases h.2 with h1|⟨g,cap,cur,hv,hb,hg,h1⟩;exact ack h1;have hl:g<w.heap.size:=by
  have:aD w g 118 cur:=hg;exact this.lt
 exact acm ⟨g,cap,cur,hv,hb,(q.block g hl (hn g (by rw[hv];rfl))).trans hg,h1⟩
def gB.form (h:gB w b0 v l):∃a n c,v=aco a n c:=by
 rcases h.2 with⟨rfl,_⟩|⟨g,cap,cur,rfl,_⟩;exact⟨_,_,_,rfl⟩;exact⟨_,_,_,rfl⟩
def LU (hown:gB w b0 v l)(x:Nat)(hn:l.length+1<=1000000)(hb:b0<=w.heap.size) :
  ∃v' w',eH 123 123 123 v (.slice (some ⟨w.heap.size,0,none⟩) 1 1) (w.alloc (.cells #[vw x] 118)) v' w'/\gB w' b0 v' (l++[x])/\(w.alloc (.cells #[vw x] 118)).grownBy w' v.ownBlock /\
   (v'.ownBlock=v.ownBlock\/v'.ownBlock=some (w.heap.size+1)):=by
 obtain⟨i0,hi,hz0,hz1,hz2⟩:=info_parts Vt;have hown':=hown.old ((acN.refl _ w).alloc aj (.cells #[vw x] 118));obtain⟨v',w',h1,h2,h3,_,h5⟩:=run_append_own_at (P:=prog) (w.alloc (.cells #[vw x] 118)) b0 123 123 118 i0 _ 1 4 underlying123 hi hz0 hz1 hz2 rfl aa v l.length (l.map λn=>vw n) hown'
  ⟨w.heap.size,0,none⟩ 1 1 [vw x] rfl (λj u hu=>by
   have hj:j=0:=by
    have:=(List.getElem?_eq_some_iff.1 hu).1
    simpa using this
   subst hj
   rw[add_plain,Nat.zero_add,(aD.new w 118 #[vw x]).cell]
   exact hu) (by intro u hu;simp at hu;rw[hu];rfl)
   (by unfold maxLen;omega) aa (by simp;omega)
 refine⟨v',w',⟨h1⟩,?_,h3,by rw[size_alloc]at h5;exact h5⟩;unfold gB;rw[List.length_append,List.map_append];simpa using h2
end
def lS {F:Fence}{n:Nat}{P:Program}{w w':acL}{ops:Array Oper}{rest:List Oper}{o:Oper}{a:Act}{Q:Exit->Act->acL->Prop}(hgd:o.guard=none)(s x:Operand){t u:TypeId}
  (ho:o.op=.call {callee:=.builtin .append,args:=#[s,x],argTypes:=#[t,u]}) {v src v':acK} (hs:a.eval s=v) (hx:a.eval x=src)
  (hrun:(Builtin.append_ #[t,u] o.type #[v,src]).run P w=.ok v' w') (h:wpListIn F n P ops Q rest (a.put o.dst v') w'):wpListIn F n P ops Q (o::rest) a w:=by
 refine agp hgd λK hK=>?_
 unfold Oper.wpIn;refine⟨by simp[Oper.about,ho,resolve,Target.leads,Sem.run_pure],?_⟩;rw[agk F _ _ (by rw[ho];intro c hc';cases hc')];simp[execOp,ho,resolve,invoke,builtin,hs,hx,hrun,Result.andThen];exact hK _ _ h
def Gives (gf:Nat)(lb:Array acK)(N:Nat)(S:List Nat->Prop)(w0:acL):Prop :=
 ∀(l:Nat) (J:(Nat->Prop)->List Nat->acL->Prop) (K:Nat->Prop) (W:acL),acN w0.heap.size w0 W ->
  (∀K ss W,J K ss W->∀n,K n->n<W.heap.size/\w0.heap.size<=n) ->
  (∀K ss W W' F,J K ss W->aP F W W'->(∀n,F n->¬K n)->(∀n,F n->w0.heap.size<=n)->J K ss W') ->
  (∀K ss x W,J K ss W->ss.length<N->YieldAt agb 4 prog l #[vw x] W λe W'=>e=ab4 (acg true)/\∃K',J K' (ss++[x]) W'/\aP K W W'/\∀n,K' n->K n\/W.heap.size<=n) ->
  J K [] W->ac4 prog gf (#[.func (.yield l) #[] #[]]++lb) W λe W'=>(∃v,e=ab4 v)/\∃K' ss,S ss/\J K' ss W'
structure Vu (w0:acL)(bs l D:Nat)(ro:Obj)(K:Nat->Prop)(ss:List Nat)(W:acL):Prop where
 below:acN w0.heap.size w0 W
 box:∃v,aD W bs 123 #[v]/\gB W w0.heap.size v ss/\∀n,K n↔n=bs\/n=l\/n=D\/v.ownBlock=some n
 lJ:W.heap[l]?=some ro
 nW:W.heap[D]?=some (adL (some []))
section
variable{w0:acL}{bs l D:Nat}{ro:Obj}
def Ct {K:Nat->Prop}{ss:List Nat}{W:acL}(h1:w0.heap.size<=bs/\w0.heap.size<=l/\w0.heap.size<=D)(h:Vu w0 bs l D ro K ss W):∀n,K n->n<W.heap.size/\w0.heap.size<=n:=by
 intro n hn;obtain⟨v,h2,h3,h4⟩:=h.box;rcases (h4 n).1 hn with e|e|e|e;rw[e];exact⟨h2.lt,h1.1⟩;rw[e];exact⟨(aaz.1 h.lJ).1,h1.2.1⟩;rw[e];exact⟨(aaz.1 h.nW).1,h1.2.2⟩;exact⟨(h3.lt e).1,(h3.lt e).2.1⟩
def Gw {K:Nat->Prop}{ss:List Nat}{W W':acL}{F:Nat->Prop}(h:Vu w0 bs l D ro K ss W)(q:aP F W W')(hn:∀n,F n->¬K n)(h0:∀n,F n->w0.heap.size<=n):Vu w0 bs l D ro K ss W':=by
 obtain⟨v,h2,h3,h4⟩:=h.box;have hs:=h.below.size;refine⟨⟨q.os.trans h.below.os,q.tape.trans h.below.tape,q.output.trans h.below.output,abX hs q.size,λk hk=>(q.block k (Nat.lt_of_lt_of_le hk hs) (λe=>by have:=h0 k e;omega)).trans (h.below.block k hk)⟩,
  ⟨v,h2.aJ q (λe=>hn _ e ((h4 _).2 (ack rfl))),h3.aJ q (λg e e2=>hn _ e2 ((h4 _).2 (acm (acm (acm e))))),h4⟩,?_,?_⟩
 exact(q.block l (aaz.1 h.lJ).1 (λe=>hn _ e ((h4 _).2 (acm (ack rfl))))).trans h.lJ;exact(q.block D (aaz.1 h.nW).1 (λe=>hn _ e ((h4 _).2 (acm (acm (ack rfl)))))).trans h.nW
end
end us
namespace us
open RowKit mgr ft po nd
attribute [local go_sem] agh
def eY {w0 W W':acL}{F:Nat->Prop}(h:acN w0.heap.size w0 W)(q:aP F W W')(h0:∀n,F n->w0.heap.size<=n):acN w0.heap.size w0 W' :=
 ⟨q.os.trans h.os,q.tape.trans h.tape,q.output.trans h.output,abX h.size q.size,λk hk=>(q.block k (Nat.lt_of_lt_of_le hk h.size) (λe=>by have:=h0 k e;omega)).trans (h.block k hk)⟩
def uZ {w':acL}{v0:acK}(tmps:Array acK)(h2:tmps[4]?=some v0):(results Tryz.f104 tmps).run prog w'=.ok v0 w':=by
 simp only[results,results104];simp[go_sem,h2]
variable{w:acL}
def Gx {gf:Nat}{lb:Array acK}{N:Nat}{S:List Nat->Prop}(hN:N<=900000)(eg:∀args w,(callFunc gf args).run prog w=.ok (.enter gf args) w)(hg:Gives gf lb N S w) :
  ac4 prog 104 #[aco none 0 0,.func (.func gf) #[] lb] w λe w'=>∃v ss,e=ab4 v/\S ss/\gB w' w.heap.size v ss/\acN w.heap.size w w':=by
 have HG:=az hg;clear hg;refine agn.1 (callsIn_of_wp_marks (F:=agb) (n:=6) func104 rfl trivial (wpIn_wide.2 ?_) rfl);simp only[ntmps104,af7,adV,afO,agi,agj,af8,af9,agd,aga,afl,age];go_upto_region 1 with fail;have HB1:Hid (acN w.heap.size w (w.alloc (ach #[aco none 0 0] 123))):=az ax;have lD:=az (aD.new w 123 #[aco none 0 0]);have fV:Hid ((w.alloc (ach #[aco none 0 0] 123)).heap.size=w.heap.size+1):=az ai
 obtain⟨x,hx⟩:∃x,x=w.heap.size:=⟨_,rfl⟩;rw[<-hx]at lD ⊢;have HX:=az hx;clear hx;change Code.wp _ _ _ _ (w.alloc (ach #[aco none 0 0] 123));generalize w.alloc (ach #[aco none 0 0] 123)=w1 at*;go_wp2_with fail;refine(wpIn_wide (n:=6)).1 ?_;refine ic (n:=6) aa (gf:=gf) (lb:=lb) rfl eg (λW=>∃v ss,S ss/\aD W x 123 #[v]/\gB W w.heap.size v ss/\acN w.heap.size w W) ?hc ?hd
 case hc =>
  intro fn;generalize hro:Obj.loop (ja fn _ _ _ _ _ _ _)=ro at*;have hb4:acN w1.heap.size w1 ((w1.alloc (adL (some []))).alloc ro):=ax.alloc ai _;have hl4:((w1.alloc (adL (some []))).alloc ro).heap[w1.heap.size+1]?=some ro:=by
   have h:=agf (w1.alloc (adL (some []))) ro;rwa[acL.size_alloc]at h
  have hd4:((w1.alloc (adL (some []))).alloc ro).heap[w1.heap.size]?=some (adL (some [])):=(acN.heap_alloc _ _ _ ai).trans (agf w1 _);have hsz:=fV.o;have AV:=HX.o;have FI:Vu w x (w1.heap.size+1) w1.heap.size ro (λn=>n=x\/n=w1.heap.size+1\/n=w1.heap.size\/(acK.slice none 0 0).ownBlock=some n) [] ((w1.alloc (adL (some []))).alloc ro) :=
   ⟨HB1.o.trans (hb4.mono HB1.o.size),⟨aco none 0 0,lD.o.old hb4,acL.ownsRow_nil _ _ _ _,λ_=>Iff.rfl⟩,hl4,hd4⟩
  refine(HG.o (w1.heap.size+1) (Vu w x (w1.heap.size+1) w1.heap.size ro) _ _ FI.below (λK ss W h=>Ct ⟨aa,aa,aa⟩ h) (λK ss W W' F h=>Gw h) ?_ FI).mono ?_
  ·clear FI hl4 hd4 hb4;intro K ss n W hJ hlen;have HJ:=az hJ;subst hro;refine rY hJ.lJ rfl rfl rfl ?_;obtain⟨v,h1,h2,h3⟩:=hJ.box;have HL:=az hJ.lJ;have HD:=az hJ.nW;have FU:Hid (x≠w1.heap.size+1/\x≠w1.heap.size):=az aa;have ig:Hid (w1.heap.size+1<W.heap.size/\w.heap.size<=W.heap.size):=az ⟨(aaz.1 hJ.lJ).1,hJ.below.size⟩;have ZF:=az h1;have Jr:=az h2;have CV:=az h3;have HLEN:Hid (ss.length+1<=1000000):=az aa;clear hJ h1 h2 h3 hlen hsz AV;unfold ja at HL ⊢;dsimp only at HL ⊢;gi_wp2;refine⟨HL.o,?_⟩;have GQ:Hid (∀g,v.ownBlock=some g->g≠w1.heap.size):=az (λg e e2=>by
    obtain⟨_,_,cur,hb⟩:=Jr.o.lt e
    have h1:=HD.o
    rw[<-e2]at h1
    unfold aD at hb
    rw[hb]at h1
    cases h1)
   have HNV:Hid (∀g,v.ownBlock=some g->g≠w1.heap.size+1):=az (λg e e2=>by
    obtain⟨_,_,cur,hb⟩:=Jr.o.lt e
    have h1:=HL.o
    rw[<-e2]at h1
    unfold aD at hb
    rw[hb]at h1
    cases h1)
   generalize Dx:Obj.loop {state:=LoopState.busy,pending:=none,fn:=fn,tmps:=_,params:=_,assign:=_,body:=_,defers:=_}=ob;generalize hor:Obj.loop {state:=LoopState.ready,pending:=none,fn:=fn,tmps:=_,params:=_,assign:=_,body:=_,defers:=_}=od at*;have HB2:Hid (aD (W.putObj (w1.heap.size+1) ob) x 123 #[v]):=az ((af4 FU.o.1).trans ZF.o);have yK:Hid ((W.putObj (w1.heap.size+1) ob).heap[w1.heap.size+1]?=some ob):=az (agc ig.o.1);have yx:Hid (aP (λm=>m=w1.heap.size+1) W (W.putObj (w1.heap.size+1) ob)):=az ⟨rfl,rfl,rfl,by simp[af6],λm hm e=>af4 (λe2=>e e2)⟩
   have II:Hid (gB (W.putObj (w1.heap.size+1) ob) w.heap.size v ss):=az (Jr.o.aJ yx.o (λg e e2=>HNV.o g e e2));have jS:Hid ((W.putObj (w1.heap.size+1) ob).heap.size=W.heap.size):=az (by simp[af6]);have HTY:Hid (∀cs t z,ob≠ ach cs t z):=az (λcs t z e=>by rw[<-Dx]at e;cases e);clear Dx;generalize W.putObj (w1.heap.size+1) ob=W1 at*;have Vv:=az (LU II.o n (by have:=HLEN.o;omega) (by have:=jS.o;have:=ig.o;omega));obtain⟨v',w5,hrun,jT,hg5,Vw⟩:=Vv.o;obtain⟨a5,n5,c5,hv5⟩:=jT.form;subst hv5;have RA:=az hrun;have hbl:acN W1.heap.size W1 (W1.alloc (ach #[vw n] 118)):=ax
   have JX:aD w5 x 123 #[v]:=(HB2.o.alloc _).grown hg5 (bU II.o HB2.o ag);have RN:Hid (w5.heap[w1.heap.size+1]?=some ob):=az ((hg5.block _ (by have:=jS.o;have:=ig.o;simp;omega) (λe=>HNV.o _ e.symm rfl)).trans ((hbl.block _ (by have:=jS.o;have:=ig.o;omega)).trans yK.o));have HD5:Hid (w5.heap[w1.heap.size]?=some (adL (some []))):=az ((hg5.block _ (by have:=jS.o;have:=ig.o;simp;omega) (λe=>GQ.o _ e.symm rfl)).trans ((hbl.block _ (by have:=jS.o;have:=ig.o;omega)).trans ((yx.o.block _ (by have:=ig.o;omega) aa).trans HD.o)));have P9:Hid (aP K W w5):=az ((yx.o.mono (λm _ e=>(CV.o m).2 (acm (ack e)))).trans ((aP.of_below (F:=K) hbl).grown hg5 (λr e=>ack ((CV.o r).2 (acm (acm (acm e)))))) (λ_ _ e=>e))
   have Bl:=az JX;have Dk:=az jT;have ql:=az Vw;have y0:W1.cell? ⟨x,0,none⟩=some v:=HB2.o.cell 0;have z0:=JX.frozen 0;have z1:=JX.cell 0;clear hrun jT hg5 Vw JX hbl Vv;gi_wp2_with (gi_at_builtin;refine lS rfl (.tmp 8) (.tmp 10) rfl rfl rfl RA.o.run ?_);have YB:aP (λm=>m=x) w5 (w5.setCell ⟨x,0,none⟩ (aco a5 n5 c5)):=aP.set (F:=λm=>m=x) w5 (p:=⟨x,0,none⟩) rfl _;have hL6:(w5.setCell ⟨x,0,none⟩ (aco a5 n5 c5)).heap[w1.heap.size+1]?=some ob:=(YB.block _ (aaz.1 RN.o).1 (λe=>FU.o.1 e.symm)).trans RN.o;have hD6:(w5.setCell ⟨x,0,none⟩ (aco a5 n5 c5)).heap[w1.heap.size]?=some (adL (some [])):=(YB.block _ (aaz.1 HD5.o).1 (λe=>FU.o.2 e.symm)).trans HD5.o
   have hU6:gB (w5.setCell ⟨x,0,none⟩ (aco a5 n5 c5)) w.heap.size (aco a5 n5 c5) (ss++[n]):=Dk.o.aJ YB (λg e e2=>by
    obtain⟨_,_,cur,hb⟩:=Dk.o.lt e
    rw[e2]at hb
    have:=bY hb Bl.o
    revert this
    decide)
   have hB6:aD (w5.setCell ⟨x,0,none⟩ (aco a5 n5 c5)) x 123 #[aco a5 n5 c5]:=Bl.o.bB 0 _;have hC:=P9.o.trans YB (λm _ e=>(CV.o m).2 (ack e));clear y0 z0 z1 RA;generalize w5.setCell ⟨x,0,none⟩ (aco a5 n5 c5)=w6 at*;have YC:aP (λm=>m=w1.heap.size+1) w6 (w6.putObj (w1.heap.size+1) od):=⟨rfl,rfl,rfl,by simp[af6],λm hm e=>af4 (λe2=>e e2)⟩;have hC8:aP K W (w6.putObj (w1.heap.size+1) od):=hC.trans YC (λm _ e=>(CV.o m).2 (acm (ack e)));refine⟨hL6,λm=>m=x\/m=w1.heap.size+1\/m=w1.heap.size\/(acK.slice a5 n5 c5).ownBlock=some m,⟨eY HJ.o.below hC8 (λm e=>(Ct ⟨by have:=HX.o;omega,by have:=HX.o;have:=fV.o;omega,by have:=HX.o;have:=fV.o;omega⟩ HJ.o m e).2),⟨_,?_,?_,λ_=>Iff.rfl⟩,?_,?_⟩,hC8,λm e=>?_⟩
   exact hB6.aJ YC (by have:=FU.o;omega);refine hU6.aJ YC (λg e e2=>?_);obtain⟨_,_,cur,hb⟩:=hU6.lt e;have h1:=HTY.o;rw[e2]at hb;unfold aD at hb;rw[hb]at hL6;injection hL6 with hL6;rw[<-hL6]at h1;exact h1 _ _ _ rfl;exact agc (aaz.1 hL6).1;exact(YC.block _ (aaz.1 hD6).1 aa).trans hD6;rcases e with e|e|e|e;exact ack ((CV.o m).2 (ack e));exact ack ((CV.o m).2 (acm (ack e)));exact ack ((CV.o m).2 (acm (acm (ack e))));rcases ql.o with e2|e2;exact ack ((CV.o m).2 (acm (acm (acm (by rw[<-e2];exact e)))))
   rw[e2]at e;injection e with e;exact acm (by have:=jS.o;omega)
  rintro e W ⟨⟨v,rfl⟩,K',ss,hS,hJ⟩;obtain⟨v2,h1,h2,h3⟩:=hJ.box;exact⟨⟨_,rfl⟩,hJ.lJ,hJ.nW,v2,ss,hS,h1,h2,hJ.below⟩
 case hd =>
  intro W o r hR hD hl;obtain⟨v,ss,hS,h1,h2,h3⟩:=hR;have hC:aP (λm=>m=w1.heap.size+1) W (W.putObj (w1.heap.size+1) o):=⟨rfl,rfl,rfl,by simp[af6],λm hm e=>af4 (λe2=>e e2)⟩;have hne:x≠w1.heap.size+1:=by have:=HX.o;have:=fV.o;omega
  have HB:=az (h1.aJ hC hne);have HU:=az (h2.aJ hC (λg e e2=>by
   obtain⟨_,_,cur,hb⟩:=h2.lt e
   rw[e2]at hb
   unfold aD at hb
   rw[hb]at hl
   cases hl))
  have HD:=az ((hC.block w1.heap.size (aaz.1 hD).1 aa).trans hD);have lK:=az (eY h3 hC (λm e=>by rw[e];have:=HB1.o.size;omega));have DC:=az hS;clear h1 h2 h3 hS hD hl hC;dsimp only;generalize W.putObj (w1.heap.size+1) o=W2 at*;have y0:W2.cell? ⟨x,0,none⟩=some v:=HB.o.cell 0;go_wp2_with fail;refine di.ji (v:=v) HD.o (uZ _ rfl) ⟨v,ss,rfl,DC.o,?_,?_⟩;refine HU.o.aJ (F:=λm=>m=w1.heap.size) ⟨rfl,rfl,rfl,by simp[af6],λm hm e=>af4 (λe2=>e e2)⟩ (λg e e2=>?_);obtain⟨_,_,cur,hb⟩:=HU.o.lt e
  have h1:=HD.o;rw[e2]at hb;unfold aD at hb;rw[hb]at h1;cases h1;exact eY lK.o (F:=λm=>m=w1.heap.size) ⟨rfl,rfl,rfl,by simp[af6],λm hm e=>af4 (λe2=>e e2)⟩ (λm e=>by rw[e];have:=HB1.o.size;omega)
end us
namespace us
open RowKit Go.Sort mgr ft po nd
def Vx (n:Nat)(G:Nat->Nat){i j:Nat}(hi:i<n)(hj:j<n):((ac9 n).map (swp G i j)).Perm ((ac9 n).map G):=by
 have h1:((ac9 n).map G).toArray.swap i j (by simpa using hi) (by simpa using hj)=((ac9 n).map (swp G i j)).toArray:=by
  apply Array.ext;simp;intro k h1 h2;simp only[Array.size_swap,af7,abT,List.length_range]at h1;rw[Array.getElem_swap];simp only[List.getElem_toArray,List.getElem_map,List.getElem_range];unfold swp;by_cases e1:k=i;subst e1;by_cases e2:k=j;simp[e2];simp[e2];by_cases e2:k=j;simp[e2];intro e3;omega;simp[e1,e2]
 have h2:=Array.swap_perm (xs:=((ac9 n).map G).toArray) (i:=i) (j:=j) (by simpa using hi) (by simpa using hj);rw[h1]at h2;exact Array.perm_iff_toList_perm.1 h2
def Sw.perm {n:Nat}{G G':Nat->Nat}(h:Sw n G G'):((ac9 n).map G').Perm ((ac9 n).map G):=by
 induction h with
 |refl=>exact List.Perm.refl _
 |step _ hi hj ih=>exact(Vx n _ hi hj).trans ih
def NM (n:Nat)(hn:n<1000000)(w:acL):ac4 prog 127 #[.int .u64 n] w λe w'=>∃k:Nat,k<1000000/\e=ab4 (vi k)/\w'=w:=by
 refine(agm λD=>AnyS.bits_LenIn laysLen D (n:Int) w aa aa).mono ?_;rintro e w' ⟨rfl,rfl⟩;refine⟨Lib.bitLen n,?_,by rw[Int.toNat_natCast],rfl⟩;have:bitsLen n<=62:=(bitsLen_le_iff n 62).2 aa;rw[bitLen_eq _ aa];omega
variable{w:acL}
def YD:ac4 prog 184 #[aco none 0 0,vi 0,vi 0] w λe w'=>e=ab4 (adg #[])/\w'=w:=by
 go_in;go_wp2_with fail;go_loopg [6] 0 (λk v6 wr=>v6=vi 1/\wr=w)
 case atStart=>exact⟨rfl,rfl⟩
 case round =>
  obtain⟨rfl,rfl⟩:=hrel;go_wp2_with fail;go_end0;exact⟨rfl,rfl⟩
def YE (k:Nat)(hk:k<1000000):ac4 prog 165 #[aco none 0 0,vi 0,vi 0,vi k] w λe w'=>e=ab4 (adg #[])/\w'=w:=by
 go_in;go_wp2_with fail;go_loopg [1,2,3,8,9] 0 (λ_ v1 v2 v3 v8 v9 wr=>v1=vi 0/\v2=vi 0/\v3=vi k/\v8=acg true/\v9=acg true/\wr=w)
 case atStart=>exact⟨rfl,rfl,rfl,rfl,rfl,rfl⟩
 case round =>
  obtain⟨rfl,rfl,rfl,rfl,rfl,rfl⟩:=hrel;go_wp2_with (go_at_call 184;refine(YD).mono ?_;rintro e w2 ⟨rfl,rfl⟩);refine ac5 (agl rfl _ _ _) rfl ?_;exact⟨rfl,rfl⟩
def gB.ur {b0 g cap:Nat}{l:List Nat}(h:gB w b0 (aco (some ⟨g,0,none⟩) l.length cap) l):UR w g l.length (λt=>l.getD t 0):=by
 rcases h.2 with⟨e,_⟩|⟨g',cap',cur,e,hb,hh,hn,hc,hs,ht⟩;cases e;injection e with e1 e2 e3;injection e1 with e1;injection e1 with e1;subst e1;refine⟨cur,hh,λt h=>?_⟩;have h1:(cur.toList.take (l.length*1))[t]?=some (vw (l.getD t 0)):=by
  rw[ht,aeX,List.getElem?_eq_getElem h];simp[List.getD,h]
 rw[List.getElem?_take]at h1;split at h1;rw[<-Array.getElem?_toList];exact h1;cases h1
def LV (l:List Nat):(ac9 l.length).map (λt=>l.getD t 0)=l:=by
 apply List.ext_getElem?;intro t;rw[aeX];by_cases h:t<l.length;rw[List.getElem?_range h,List.getElem?_eq_getElem h];simp[List.getD,h];rw[ac7 (by simpa using h),ac7 aa];rfl
def Vy {b0:Nat}{v:acK}{l:List Nat}(h:gB w b0 v l)(hl:l.length<1000000) :
  ac4 prog 138 #[v] w λe w'=>e=ab4 (adg #[])/\∃l',l'.Perm l/\gB w' b0 v l'/\aP (λm=>v.ownBlock=some m) w w':=by
 have hw:acS.u64.wrap (l.length:Int)=l.length:=by simp[acS.wrap,acS.bits,acS.signed];omega
 have h':=h;rcases h.2 with⟨rfl,h0⟩|⟨g,cap,cur,rfl,hb,hh,hn,hc,hs,ht⟩
 ·have hn:l=[]:=List.eq_nil_of_length_eq_zero h0;subst hn;clear h hw;have HU:=az h';clear h';go_in;go_wp2_with (first|(go_at_call 127;refine(NM 0 aa _).mono ?_;rintro e w2 ⟨k,hk,rfl,rfl⟩)|(go_at_call 165;refine(YE k hk).mono ?_;rintro e w2 ⟨rfl,rfl⟩));go_end0;exact⟨rfl,[],List.Perm.refl _,HU.o,aP.refl _ _⟩
 have HUR:=az h'.ur;have HB:Hid (b0<=g/\aD w g 118 cur/\l.length<=cap/\cap<=maxLen/\cur.size=cap*1):=az ⟨hb,hh,hn,hc,hs⟩;clear h h' ht hb hh hn hc hs;obtain⟨z,hz⟩:∃z,l.length=z:=⟨_,rfl⟩;rw[hz]at hw hl HUR;have HZ:=az hz;rw[hz];clear hz;go_in;go_wp2_with (first|(go_at_call 127;refine(NM z hl _).mono ?_;rintro e w2 ⟨k,hk,rfl,rfl⟩)|(go_at_call 165;refine(Yz cap hl (z+1) 0 z k _ _ aa aa aa hk HUR.o).mono ?_;rintro e w2 ⟨rfl,G2,h2⟩;have II:=az h2;clear h2));go_end0;have hp:=II.o.sw.perm;have hz:=HZ.o;refine⟨rfl,(ac9 z).map G2,by rw[<-hz]at hp ⊢;rwa[LV]at hp,⟨ai,acm ?_⟩,II.o.aJ.mono (λm _ e=>by rw[e];rfl)⟩
 obtain⟨cs,c1,c2⟩:=II.o.row;have hsz:=II.o.siz _ _ HB.o.2.1 c1;refine⟨g,cap,cs,ai,HB.o.1,c1,by simpa[hz] using HB.o.2.2.1,HB.o.2.2.2.1,hsz.trans HB.o.2.2.2.2,?_⟩;apply List.ext_getElem?;intro t;simp only[abT,List.length_range,Nat.mul_one];rw[List.getElem?_take,aeX];by_cases ht:t<z;rw[if_pos ht,aeX,List.getElem?_range ht,Array.getElem?_toList,c2 t ht];rfl;rw[if_neg ht,ac7 (by simpa using ht)];rfl
variable{lb:Array acK}{N:Nat}{S:List Nat->Prop}
def wO {gf:Nat}(hN:N<=900000)(eg:∀args w,(callFunc gf args).run prog w=.ok (.enter gf args) w)(hg:Gives gf lb N S w) :
  ac4 prog 70 #[.func (.func gf) #[] lb] w λe w'=>∃v ss,e=ab4 v/\S ss/\gB w' w.heap.size v ss/\acN w.heap.size w w':=by
 have HG:=az hg;clear hg;go_in;go_wp2_with (go_at_call 104;refine(Gx hN eg HG.o).mono ?_;rintro e w2 ⟨v,ss,rfl,hS,h1,h2⟩;have H1:=az h1;have H2:=az h2;have HS:=az hS;clear h1 h2 hS);go_ret;exact⟨v,ss,rfl,HS.o,H1.o,H2.o⟩
attribute [local go_sem] agh
section
variable{F:Fence}{nF:Nat}{P:Program}{w':acL}{ops:Array Oper}{rest:List Oper}{o:Oper}{a:Act}{Q:Exit->Act->acL->Prop}
def jm (hgd:o.guard=none)(m:Operand){t:TypeId}(ho:o.op=Op.range t m){mv v:acK}(hm:a.eval m=mv)(hrun:(Instr.range t mv).run P w=.ok v w')(h:wpListIn F nF P ops Q rest (a.put o.dst v) w'):wpListIn F nF P ops Q (o::rest) a w:=by
 refine agp hgd λK hK=>?_
 unfold Oper.wpIn;refine⟨by simp[Oper.about,ho],?_⟩;rw[agk F _ _ (by rw[ho];intro c hc';cases hc')];simp[execOp,ho,hm,hrun,Result.andThen];exact hK _ _ h
def eD (hgd:o.guard=none)(it:Operand)(ho:o.op=Op.next it false){iv v:acK}(hi:a.eval it=iv)(hrun:(Instr.next iv false o.type).run P w=.ok v w')(h:wpListIn F nF P ops Q rest (a.put o.dst v) w'):wpListIn F nF P ops Q (o::rest) a w:=by
 refine agp hgd λK hK=>?_
 unfold Oper.wpIn;refine⟨by simp[Oper.about,ho],?_⟩;rw[agk F _ _ (by rw[ho];intro c hc';cases hc')];simp[execOp,ho,hi,hrun,Result.andThen];exact hK _ _ h
end
def ve {gf:Nat}(hN:N<=900000)(hS:∀ss,S ss->ss.length<1000000)(eg:∀args w,(callFunc gf args).run prog w=.ok (.enter gf args) w)(hg:Gives gf lb N S w) :
  ac4 prog 107 #[.func (.func gf) #[] lb] w λe w'=>∃v ss l',e=ab4 v/\S ss/\l'.Perm ss/\gB w' w.heap.size v l'/\acN w.heap.size w w':=by
 have HG:=az hg;have HN:=az hS;clear hg hS;go_in;go_upto_region 2 with (go_at_call 70;refine(wO hN eg HG.o).mono ?_;rintro e w2 ⟨v,ss,rfl,hS,h1,h2⟩;have H1:=az h1;have H2:=az h2;have HS:=az hS;clear h1 h2 hS);obtain⟨a,n,c,hv⟩:=H1.o.form;subst hv;go_wp2_with (go_at_call 138;refine(Vy H1.o (HN.o _ HS.o)).mono ?_;rintro e w3 ⟨rfl,l',hp,h1,h2⟩;have H3:=az h1;have H4:=az h2;have HP:=az hp;clear h1 h2 hp);go_ret;exact⟨_,ss,l',rfl,HS.o,HP.o,H3.o,eY H2.o H4.o (λm e=>(H1.o.lt e).2.1)⟩
def Cu (b:Nat):ac4 prog 108 #[.map (some b)] w λe w'=>e=ab4 (.func (.func 139) #[] #[ptr w.heap.size])/\w'=w.alloc (ach #[.map (some b)] 149):=by
 go_in;go_wp2;go_ret;exact⟨ai,rfl⟩
def keys_gives {b bx:Nat}{M:Mp FP.cB}(hm:bz w b .u32 dz M)(hbx:aD w bx 149 #[.map (some b)])(hk:∀x∈M,0<=x.1)(hN:M.length<=N) :
  Gives 139 #[ptr bx] N (λss=>(ss.map λn:Nat=>(n:Int)).Perm (M.map af5)) w:=by
 intro l J K W hW hlt hA hY h0;have hbl:=hm.lt;have hmW:bz W b .u32 dz M:=hm.of_heap (hW.block b hbl);have c0:W.cell? ⟨bx,0,none⟩=some (.map (some b)):=(hbx.below hW hbx.lt).cell 0;obtain⟨w1,hrun,hit,hb1,_⟩:=hmW.range (P:=prog) underlying149;have Da:Hid (xk 149 (.map (some b)) (.pointer (some ⟨W.heap.size,0,none⟩)) W w1):=az ⟨hrun⟩;have hJ1:J K [] w1:=hA K [] W w1 (λ_=>False) h0 (aP.of_below hb1) (λ_ e=>e.elim) (λ_ e=>e.elim);have ig:=az hlt;have HA:=az hA;have HY:=az hY;have HK:=az hk;have HN:=az hN;have HWS:=az hW.size;have lK:=az hbl;have zi:Hid (J K [] w1/\gL w1 W.heap.size b .u32 dz M/\(([]:List Nat).map (λn:Nat=>(n:Int))++M.map af5).Perm (M.map af5)/\([]:List Nat).length+M.length=M.length/\¬K W.heap.size) :=
  az ⟨hJ1,hit,List.Perm.refl _,ai,λe=>by have:=(hlt _ _ _ h0 _ e).1;omega⟩
 clear hlt hA hY hk hN hW hbl hm hbx h0 hrun hit hb1 hJ1 hmW;refine agn.1 (callsIn_of_wp (F:=agb) (n:=5) func139 rfl trivial ?_ rfl);simp only[ntmps139,af7,adV,afO,agi,agj,af8,af9,agd,aga,afl,age];gi_wp2_with (gi_at_range;refine jm rfl (.tmp 4) rfl rfl Da.o.run ?_);go_frame;clear Da c0;generalize W.heap.size=r at*;gi_loopg [3] M.length (λk _ wr=>∃(K:Nat->Prop) (ss:List Nat) (left:Mp FP.cB),left.length<=k/\Hid (J K ss wr/\gL wr r b .u32 dz left/\(ss.map (λn:Nat=>(n:Int))++left.map af5).Perm (M.map af5)/\ss.length+left.length=M.length/\¬K r))
 case atStart=>exact⟨K,[],M,aj,zi⟩
 case round =>
  clear zi;obtain⟨K,ss,left,hlk,hrd⟩:=hrel;have bK:=az hrd.o;clear hrd;rcases bK.o.2.1.next (P:=prog) with⟨hnil,hnx⟩|⟨⟨kk,pb,pp⟩,w2,hmem,hnx,hit2,hc2,hs2,hen⟩
  ·have iH:Hid (kZ (.pointer (some ⟨r,0,none⟩)) (.tuple #[.bool false]) wr wr):=az ⟨hnx⟩;have HP:=az bK.o.2.2.1;subst hnil;clear hnx;gi_wp2_with (gi_at_next;refine eD rfl (.tmp 5) rfl rfl (iH.o.run _) ?_);go_end0;exact⟨⟨_,rfl⟩,K,ss,by simpa using HP.o,bK.o.1⟩
  have hkk:0<=kk:=by
   have h1:kk∈M.map af5:=bK.o.2.2.1.subset (List.mem_append_right _ (List.mem_map.2 ⟨_,hmem,rfl⟩));obtain⟨y,hy,e⟩:=List.mem_map.1 h1;rw[<-e];exact HK.o y hy
  obtain⟨n,rfl⟩:∃n:Nat,kk=n:=⟨kk.toNat,aa⟩;have hok:MP.Ok left:=by obtain⟨_,_,_,_,_,_,_,_,_,_,_,_,hok⟩:=bK.o.2.1;exact hok
  have hdl:(MP.del left n).length+1=left.length:=MP.o8 (MP.dR hok hmem);have hpd:=MP.fO (MP.dR hok hmem);have hrl:=bK.o.2.1.lt.1;have iH:Hid (kZ (.pointer (some ⟨r,0,none⟩)) (.tuple #[.bool true,.int .u32 n,.agg #[vi pb,vi pp]]) wr w2):=az ⟨hnx⟩;have hJ2:J K ss w2:=HA.o K ss wr w2 (λm=>m=r) bK.o.1 hc2 (λm e e2=>bK.o.2.2.2.2 (by rw[<-e];exact e2)) (λm e=>by have:=HWS.o;omega);obtain⟨fn,tmps,assign,body,hy,hR⟩:=HY.o K ss n w2 hJ2 (by have:=bK.o.2.2.2.1;have:=HN.o;omega);have HR:=az hR;have ace:Hid (∀K':Nat->Prop,(∀m,K' m->K m\/w2.heap.size<=m)->¬K' r):=az (λK' h e=>by
   rcases h r e with e2|e2
   exact bK.o.2.2.2.2 e2
   omega)
  have HIT:Hid (gL w2 r b .u32 dz (MP.del left n)/\¬K r/\¬K b):=az ⟨hit2,bK.o.2.2.2.2,λe=>by have:=(ig.o _ _ _ hJ2 _ e).2;have:=lK.o;omega⟩;have AR:Hid (((ss++[n]).map (λn:Nat=>(n:Int))++(MP.del left n).map af5).Perm (M.map af5)):=az (by
   refine List.Perm.trans ?_ bK.o.2.2.1
   rw[List.map_append,List.append_assoc]
   refine List.Perm.append_left _ ?_
   have:=hpd.symm.map af5
   simpa using this)
  have Kj:Hid ((ss++[n]).length+(MP.del left n).length=M.length):=az (by have:=bK.o.2.2.2.1;rw[List.length_append];simp;omega);clear hnx hit2 hc2 hR hJ2 hmem hpd hok hkk;gi_wp2_with (gi_at_next;refine eD rfl (.tmp 5) rfl rfl (iH.o.run _) ?_);refine HR.o.mono ?_;rintro e W4 ⟨rfl,K',Tm,YF,hsub⟩;have Vz:Hid (J K' (ss++[n]) W4/\gL W4 r b .u32 dz (MP.del left n)/\((ss++[n]).map (λn:Nat=>(n:Int))++(MP.del left n).map af5).Perm (M.map af5)/\(ss++[n]).length+(MP.del left n).length=M.length/\¬K' r) :=
   az ⟨Tm,HIT.o.1.aJ YF HIT.o.2.2 HIT.o.2.1,AR.o,Kj.o,ace.o K' hsub⟩
  clear Tm YF hsub hy;gi_wp2;gi_roundg (MP.del left n).length
  case measure=>omega
  case rel=>exact⟨K',ss++[n],MP.del left n,aj,Vz⟩
end us
namespace us
open RowKit Go.Sort mgr ft po nd
def Qh (l:Mp FP.cB)(n:Int):Bool:=l.any λx=>x.1==n
def zW {m:Mp FP.cB}(n:Int):Qh m n=MP.has m n:=by
 unfold Qh MP.has;cases hg:MP.get m n with
 |some p =>
  have:=MP.get_mem hg;simp only[Option.isSome_some];exact List.any_eq_true.2 ⟨_,this,ai⟩
 |none =>
  rw[MP.get_none]at hg;simp only[Option.isSome_none];rw[List.any_eq_false];intro x hx e;exact hg x hx (by simpa using e)
def VA {l l':Mp FP.cB}(h:l.Perm l')(n:Int):Qh l n=Qh l' n:=by
 unfold Qh;rw[Bool.eq_iff_iff,List.any_eq_true,List.any_eq_true];exact⟨λ⟨x,hx,e⟩=>⟨x,h.subset hx,e⟩,λ⟨x,hx,e⟩=>⟨x,h.symm.subset hx,e⟩⟩
def afj (w:acL)(bd:Nat)(M1 M2:Mp FP.cB)(e:Ending)(w':acL):Prop :=
 e=ab4 (adg #[])/\∃M3,bz w' bd .u32 dz M3/\(∀n,MP.has M3 n=(MP.has M1 n||MP.has M2 n))/\aP (λm=>m=bd) w w'
variable{w:acL}
def JE {bd bs:Nat}{M1 M2:Mp FP.cB}(hd:bz w bd .u32 dz M1)(hs:bz w bs .u32 dz M2)(hne:bd≠bs) :
  ac4 prog 106 #[.map (some bd),.map (some bs)] w (afj w bd M1 M2):=by
 obtain⟨w1,hrun,hit,hb1,_⟩:=hs.range (P:=prog) underlying149;have Da:Hid (xk 149 (.map (some bs)) (.pointer (some ⟨w.heap.size,0,none⟩)) w w1):=az ⟨hrun⟩;have zi:Hid (bz w1 bd .u32 dz M1/\gL w1 w.heap.size bs .u32 dz M2/\aP (λm=>m=bd) w w1/\(∀n,(MP.has M1 n||Qh M2 n)=(MP.has M1 n||MP.has M2 n))) :=
  az ⟨hd.old hb1,hit,aP.of_below hb1,λn=>by rw[zW]⟩
 have zx:=az hne;have ig:Hid (bd<w.heap.size):=az hd.lt;clear hd hs hrun hit hb1 hne;go_in;go_wp2_with (at_range;refine iq rfl (.tmp 6) rfl rfl Da.o.run ?_);go_frame;clear Da;obtain⟨r,hr⟩:∃r,w.heap.size=r:=⟨_,rfl⟩;rw[hr]at zi ig ⊢;have HRR:=az hr;clear hr;go_loopg [4,5] M2.length (λk _ _ wr=>∃(M left:Mp FP.cB),left.length<=k/\Hid (bz wr bd .u32 dz M/\gL wr r bs .u32 dz left/\aP (λm=>m=bd) w wr/\(∀n,(MP.has M n||Qh left n)=(MP.has M1 n||MP.has M2 n))))
 case atStart=>exact⟨M1,M2,aj,zi⟩
 case round =>
  clear zi;obtain⟨M,left,hlk,hrd⟩:=hrel;have bK:=az hrd.o;clear hrd;rcases bK.o.2.1.next (P:=prog) with⟨hnil,hnx⟩|⟨⟨kk,pb,pp⟩,w2,hmem,hnx,hit2,hc2,hs2,hen⟩
  ·have iH:Hid (kZ (.pointer (some ⟨r,0,none⟩)) (.tuple #[.bool false]) wr wr):=az ⟨hnx⟩;have HE:Hid (∀n,MP.has M n=(MP.has M1 n||MP.has M2 n)):=az (λn=>by
    have:=bK.o.2.2.2 n
    rw[hnil]at this
    unfold Qh at this
    simpa using this)
   clear hnx hnil;go_wp2_with (at_next;refine dK rfl (.tmp 7) rfl rfl (iH.o.run _) ?_);go_end0;exact⟨rfl,M,bK.o.1,HE.o,bK.o.2.2.1⟩
  have hok:MP.Ok left:=by obtain⟨_,_,_,_,_,_,_,_,_,_,_,_,hok⟩:=bK.o.2.1;exact hok
  have hget:=MP.dR hok hmem;have hdl:(MP.del left kk).length+1=left.length:=MP.o8 hget;have HPD:=az (MP.fO hget);have hrl:=bK.o.2.1.lt;have iH:Hid (kZ (.pointer (some ⟨r,0,none⟩)) (.tuple #[.bool true,.int .u32 kk,.agg #[vi pb,vi pp]]) wr w2):=az ⟨hnx⟩;have vN:Hid (bd≠r/\r<w2.heap.size/\bd<w2.heap.size):=az ⟨by have:=ig.o;omega,aa,by have:=bK.o.1.lt;omega⟩;have yC:Hid (bz w2 bd .u32 dz M/\gL w2 r bs .u32 dz (MP.del left kk)/\aP (λm=>m=bd) w w2):=az ⟨bK.o.1.aJ hc2 (λe=>vN.o.1 e),hit2,by
   have h1:=bK.o.2.2.1
   have h2:=HRR.o
   exact⟨hc2.os.trans h1.os,hc2.tape.trans h1.tape,hc2.output.trans h1.output,abX h1.size hc2.size,λk hk hn=>(hc2.block k (Nat.lt_of_lt_of_le hk h1.size) aa).trans (h1.block k hk hn)⟩⟩
  have HHH:=az bK.o.2.2.2;clear hnx hit2 hc2 hmem hok hget hrl;go_upto_region 3 with (at_next;refine dK rfl (.tmp 7) rfl rfl (iH.o.run _) ?_);have FB:Hid (aD (w2.alloc (.cells #[vi pb,vi pp] 165)) w2.heap.size 165 #[vi pb,vi pp]):=az (aD.new _ _ _);have HB3:Hid (acN w2.heap.size w2 (w2.alloc (.cells #[vi pb,vi pp] 165))):=az ax;rw[hs2]at FB;obtain⟨w4,rG,SV,hg4⟩:=rE (yC.o.1.old HB3.o) kk pb pp;have HU:=az rG;have QW:Hid (aP (λm=>m=bd) w2 w4):=az ((aP.of_below HB3.o).grown hg4 (λk e=>by cases e;exact .inl rfl))
  have HM4:Hid (bz w4 bd .u32 dz (MP.put M kk ⟨pb,pp⟩)/\gL w4 r bs .u32 dz (MP.del left kk)/\aP (λm=>m=bd) w w4/\(∀n,(MP.has (MP.put M kk ⟨pb,pp⟩) n||Qh (MP.del left kk) n)=(MP.has M1 n||MP.has M2 n))) :=
   az ⟨SV,yC.o.2.1.aJ QW.o (λe=>zx.o e.symm) (λe=>vN.o.1 e.symm),yC.o.2.2.trans QW.o (λ_ _ e=>e),λn=>by
    rw[<-HHH.o n,VA HPD.o n,kE]
    show _=(MP.has M n||(List.any ((kk,(⟨pb,pp⟩:FP.cB))::MP.del left kk) λx=>x.1==n))
    rw[List.any_cons]
    by_cases e:kk=n
    subst e;simp
    rw[if_neg e]
    have:(kk==n)=false:=by simp[e]
    dsimp only
    rw[this,Bool.false_or]
    rfl⟩
  obtain⟨y0,y1,_,_⟩:=bO FB.o;clear hen bK rG SV hg4 HPD HHH yC QW;generalize w2.alloc (.cells #[vi pb,vi pp] 165)=w3 at*;go_wp2_with (at_mapUpdate;refine gP rfl (.tmp 13) (.tmp 14) (.tmp 15) rfl rfl rfl rfl HU.o.run ?_);go_frame;go_roundg (MP.del left kk).length
  case measure=>omega
  case rel=>exact⟨_,_,aj,HM4⟩
end us
namespace FP
def Ft.here (f:Ft)(n:Int):Bool:=(n != 0)&&(MP.has f.now n||(MP.has f.bD n&& !MP.has f.gone n))
end FP
namespace us
open RowKit Go.Sort mgr ft po nd
attribute [local go_sem] agh
variable{w:acL}
def lT {F:Fence}{nF:Nat}{P:Program}{w':acL}{ops:Array Oper}{rest:List Oper}{o:Oper}{a:Act}{Q:Exit->Act->acL->Prop}(hgd:o.guard=none)(m x:Operand){t u:TypeId}(ho:o.op=.call {callee:=.builtin .delete,args:=#[m,x],argTypes:=#[t,u]}){mv kv:acK}(hm:a.eval m=mv)(hx:a.eval x=kv)
  (hrun:(Builtin.delete_ #[t,u] o.type #[mv,kv]).run P w=.ok (adg #[]) w') (h:wpListIn F nF P ops Q rest (a.put o.dst (adg #[])) w'):wpListIn F nF P ops Q (o::rest) a w:=by
 refine agp hgd λK hK=>?_
 unfold Oper.wpIn;refine⟨by simp[Oper.about,ho,resolve,Target.leads,Sem.run_pure],?_⟩;rw[agk F _ _ (by rw[ho];intro c hc';cases hc')];unfold execOp;simp only[ho,resolve,invoke,builtin,Sem.run_bind,Sem.run_pure,Result.andThen_ok,List.map_toArray,List.map_cons,List.map_nil,hm,hx,hrun];exact hK _ _ h
variable{aA:Nat}{w:acL}{f:Nat}{X:dm}
def oI:ac4 prog 71 #[ptr f] w λe w'=>e=ab4 (.func (.func 105) #[] #[ptr w.heap.size])/\w'=w.alloc (ach #[ptr f] 92):=by
 go_in;go_wp2;go_ret;exact⟨ai,rfl⟩
def VB {M:Mp FP.cB}(hm:MP.Ok M)(h:∀n,MP.has M n=true->X.view.here n=true)(hx:X.Fit):(∀x∈M,0<=x.1/\x.1<8192)/\M.length<=8192:=by
 have h1:∀x∈M,0<=x.1/\x.1<8192:=λx hx2=>by
  have h2:=h x.1 (by unfold MP.has;rw[MP.dR hm hx2];rfl);unfold FP.Ft.here at h2;simp only[Bool.and_eq_true,Bool.or_eq_true]at h2;rcases h2.2 with h3|h3;unfold MP.has at h3;obtain⟨p,hp⟩:=Option.isSome_iff_exists.1 h3;exact hx.oG.2 (x.1,p) (MP.get_mem hp);have h4:=h3.1;unfold MP.has at h4;obtain⟨p,hp⟩:=Option.isSome_iff_exists.1 h4;exact hx.slow.2 (x.1,p) (MP.get_mem hp)
 refine⟨h1,?_⟩;have:=Fx M 0 8192 ag hm h1;omega
def Qi {M:Mp FP.cB}{ss l':List Nat}(hm:MP.Ok M)(h:∀n,MP.has M n=true->X.view.here n=true)(hl:M.length<=8192)(hS:(ss.map λn:Nat=>(n:Int)).Perm (M.map af5))(hp:l'.Perm ss) :
  l'.Nodup/\l'.length<=8192/\∀n:Nat,n∈l'->X.view.here n=true:=by
 have hq:(l'.map λn:Nat=>(n:Int)).Perm (M.map af5):=(hp.map _).trans hS;have hnd:(M.map af5).Nodup:=by
  refine List.Pairwise.map _ ?_ hm;intro x y hxy e;omega
 refine⟨?_,?_,λn hn=>?_⟩;have h1:(l'.map λn:Nat=>(n:Int)).Nodup:=hq.symm.nodup hnd;exact List.Pairwise.of_map _ (λx y hxy e=>hxy (by rw[e])) h1;have h1:=hq.length_eq;rw[abT,abT]at h1;omega;have h1:(n:Int)∈M.map af5:=hq.subset (List.mem_map.2 ⟨n,hn,rfl⟩);obtain⟨x,hx,e⟩:=List.mem_map.1 h1;have h2:=h x.1 (by unfold MP.has;rw[MP.dR hm hx];rfl);rw[<-e];exact h2
def gB.form2 {b0:Nat}{v:acK}{l:List Nat}(h:gB w b0 v l):∃a c,v=aco a l.length c:=by
 rcases h.2 with⟨rfl,h0⟩|⟨g,cap,cur,rfl,_⟩;exact⟨none,0,by rw[h0]⟩;exact⟨_,_,rfl⟩
def gB.some {b0:Nat}{a:Option Addr}{n c:Nat}{l:List Nat}(h:gB w b0 (aco a n c) l){i:Nat}(hi:i<l.length):∃g,a=.some ⟨g,0,.none⟩:=by
 rcases h.2 with⟨_,h0⟩|⟨g,cap,cur,e,_⟩;omega;injection e with e;exact⟨g,e⟩
def Gy (h:bP aA w f X)(hx:X.Fit){bx:Nat}(hbx:aD w bx 92 #[ptr f]) :
  Gives 105 #[ptr bx] 20000 (λss=>ss.Nodup/\ss.length<=8192/\∀n:Nat,n∈ss->X.view.here n=true) w:=by
 intro l J K W hW hlt hA hY h0;have H:=az (h.old hW);have HX:=az hx;have c0:W.cell? ⟨bx,0,none⟩=some (ptr f):=(hbx.below hW hbx.lt).cell 0;have ig:=az hlt;have HA:=az hA;have HY:=az hY;have FI:=az h0;have HB0:=az (hbx.below hW hbx.lt);clear hlt hA hY hW hbx h0 h hx;refine agn.1 (callsIn_of_wp (F:=agb) (n:=5) func105 rfl trivial ?_ rfl);simp only[ntmps105,af7,adV,afO,agi,agj,af8,af9,agd,aga,afl,age];have hmk:(Instr.makeMap 149 none).run prog W=.ok (.map (some W.heap.size)) (W.alloc (.map #[] 0)):=ah
 have ZQ:Hid (bz (W.alloc (.map #[] 0)) W.heap.size .u32 dz ([]:Mp FP.cB)):=az (bz.made W .u32 dz);have lK:Hid (acN W.heap.size W (W.alloc (.map #[] 0))):=az ax;obtain⟨tm,Zv⟩:∃tm,W.heap.size=tm:=⟨_,rfl⟩;have Zu:=az Zv;have HF1:=az (H.o.old lK.o);have c1:(W.alloc (.map #[] 0)).cell? ⟨bx,0,none⟩=some (ptr f):=(HB0.o.old lK.o).cell 0;have c2:(W.alloc (.map #[] 0)).cell? ⟨f,5,none⟩=some (.map (some X.bs)):=HF1.o.obj.cell 5;rw[Zv]at hmk ZQ;have JS:=az (JE (w:=W.alloc (.map #[] 0)) ZQ.o HF1.o.bD (by have:=H.o.bD.lt;rw[Zv]at this;omega))
 have D6:Hid (f<tm/\bx<tm/\X.bs<tm/\X.bn<tm/\X.bg<tm):=az ⟨by have:=H.o.obj.lt;omega,by have:=HB0.o.lt;omega,by have:=H.o.bD.lt;omega,by have:=H.o.now.lt;omega,by have:=H.o.gone.lt;omega⟩;clear Zv;generalize hw1:W.alloc (.map #[] 0)=w1 at*;clear hw1;gi_wp2;refine⟨trivial,(agn.2 JS.o).mono ?_⟩;rintro e w2 ⟨rfl,M1,hm1,hh1,hq1⟩;have HB2:Hid (acN W.heap.size W w2):=az (eY lK.o hq1 (λm e=>by rw[e];have:=Zu.o;omega));have vK:=az (H.o.old HB2.o);obtain⟨w3,hrun,hit,hb3,_⟩:=vK.o.gone.range (P:=prog) underlying149;have Da:Hid (xk 149 (.map (some X.bg)) (.pointer (some ⟨w2.heap.size,0,none⟩)) w2 w3):=az ⟨hrun⟩
 have HW2:Hid (tm<w2.heap.size/\W.heap.size<=w2.heap.size):=az ⟨hm1.lt,HB2.o.size⟩;have zi:Hid (bz w3 tm .u32 dz M1/\gL w3 w2.heap.size X.bg .u32 dz X.D/\acN W.heap.size W w3/\∀n,(MP.has M1 n&& !Qh X.D n)=(MP.has M1 n&& !MP.has X.D n)) :=
  az ⟨hm1.old hb3,hit,HB2.o.trans (hb3.mono HB2.o.size),λn=>by rw[zW]⟩
 have HH1:Hid (∀n,MP.has M1 n=MP.has X.S n):=az (λn=>by rw[hh1 n];simp[MP.has,MP.get]);have c3:w2.cell? ⟨bx,0,none⟩=some (ptr f):=(HB0.o.old HB2.o).cell 0;have c4:w2.cell? ⟨f,7,none⟩=some (.map (some X.bg)):=vK.o.obj.cell 7;clear hm1 hh1 hq1 hrun hit hb3 c0 c1 c2 ZQ HF1 JS hmk;gi_wp2_with (gi_at_range;refine jm rfl (.tmp 19) rfl rfl Da.o.run ?_);go_frame;clear Da c3 c4;generalize w2.heap.size=r at*;gi_loopg [4] X.D.length (λk _ wr=>∃(M left:Mp FP.cB),left.length<=k/\Hid (bz wr tm .u32 dz M/\gL wr r X.bg .u32 dz left/\acN W.heap.size W wr/\∀n,(MP.has M n&& !Qh left n)=(MP.has M1 n&& !MP.has X.D n)))
 case atStart=>exact⟨M1,X.D,aj,zi⟩
 case round =>
  clear zi;obtain⟨M,left,hlk,hrd⟩:=hrel;have bK:=az hrd.o;clear hrd;rcases bK.o.2.1.next (P:=prog) with⟨hnil,hnx⟩|⟨⟨kk,pb,pp⟩,w4,hmem,hnx,hit2,hc2,hs2,hen⟩
  ·have iH:Hid (kZ (.pointer (some ⟨r,0,none⟩)) (.tuple #[.bool false]) wr wr):=az ⟨hnx⟩;have HE:Hid (∀n,MP.has M n=(MP.has X.S n&& !MP.has X.D n)):=az (λn=>by
    have:=bK.o.2.2.2 n
    rw[hnil,HH1.o]at this
    unfold Qh at this
    simpa using this)
   have vZ:=az (H.o.old bK.o.2.2.1);have JS:=az (JE (w:=wr) bK.o.1 vZ.o.now (by have:=D6.o;omega));have c3:wr.cell? ⟨bx,0,none⟩=some (ptr f):=(HB0.o.old bK.o.2.2.1).cell 0;have c4:wr.cell? ⟨f,6,none⟩=some (.map (some X.bn)):=vZ.o.obj.cell 6;clear hnx hnil;gi_wp2_with (gi_at_next;refine eD rfl (.tmp 20) rfl rfl (iH.o.run _) ?_);refine⟨trivial,(agn.2 JS.o).mono ?_⟩;rintro e w5 ⟨rfl,M3,hm3,hh3,hq3⟩;have qG:Hid (acN W.heap.size W w5):=az (eY bK.o.2.2.1 hq3 (λm e=>by rw[e];have:=Zu.o;omega));obtain⟨w6,hdel,hm6,uy⟩:=xH hm3 0;have vQ:=az hdel
   have uC:Hid (acN W.heap.size W w6):=az (qG.o.grown uy qG.o.size (λk e=>by cases e;have:=Zu.o;omega));have Qj:=az hm6;have VC:Hid (∀n,MP.has (MP.del M3 0) n=true->X.view.here n=true):=az (λn hn=>by
    rw[jN hm3.ok]at hn
    split at hn
    cases hn
    rename_i e
    rw[hh3 n,HE.o n]at hn
    unfold FP.Ft.here
    simp only[Bool.and_eq_true,Bool.or_eq_true,bne_iff_ne,ne_eq]
    refine⟨λe2=>e e2.symm,?_⟩
    simp only[Bool.and_eq_true,Bool.or_eq_true]at hn
    rcases hn with h1|h1
    exact .inr h1
    exact .inl h1)
   clear hdel hm6 uy hm3 hh3 hq3 c3 c4 iH JS HE;generalize MP.del M3 0=M6 at*;have VD:=az (VB Qj.o.ok VC.o HX.o);gi_wp2_with (refine lT rfl (.tmp 33) (.const (.int .u32 0)) rfl rfl rfl (vQ.o.run _) ?_);refine⟨trivial,(agn.2 (Cu tm)).mono ?_⟩;rintro e w7 ⟨rfl,hw7⟩;have Wt:Hid (acN w6.heap.size w6 w7):=az (by rw[hw7];exact ax);have BG:Hid (aD w7 w6.heap.size 149 #[.map (some tm)]):=az (by rw[hw7];exact aD.new _ _ _);have HKG:=az (keys_gives (N:=20000) (Qj.o.old Wt.o) BG.o (λx hx=>(VD.o.1 x hx).1) (by have:=VD.o.2;omega))
   have jU:Hid (∀ss:List Nat,(ss.map λn:Nat=>(n:Int)).Perm (M6.map af5)->ss.length<1000000):=az (λss h=>by
    have h1:=h.length_eq
    rw[abT,abT]at h1
    have:=VD.o.2
    omega)
   clear hw7;gi_wp2;refine⟨trivial,(agn.2 (ve aa jU.o (dI func139 ah rfl) HKG.o)).mono ?_⟩;rintro e w8 ⟨v,ss,l',rfl,hS,hp,hu,wT⟩;have HL:Hid (l'.Nodup/\l'.length<=8192/\∀n:Nat,n∈l'->X.view.here n=true):=az (Qi Qj.o.ok VC.o VD.o.2 hS hp);have HU:=az hu;have wX:Hid (acN W.heap.size W w8):=az ((uC.o.trans (Wt.o.mono uC.o.size)).trans (wT.mono (abX uC.o.size Wt.o.size)));have FU:Hid (W.heap.size<=w7.heap.size):=az (abX uC.o.size Wt.o.size);obtain⟨a,c,hv⟩:=hu.form2;obtain⟨n',hn'⟩:∃n',l'.length=n':=⟨_,rfl⟩
   have HN':=az hn';rw[hn']at hv;subst hv;have Kq:n'<=8192:=by rw[<-hn'];exact HL.o.2.1
   clear hn';have HJ8:Hid (J K (l'.take 0) w8/\gB w8 w7.heap.size (.slice a n' c) l'/\(∀g,(acK.slice a n' c).ownBlock=some g->¬K g/\g<w8.heap.size)) :=
    az ⟨HA.o K [] W w8 (λ_=>False) FI.o (aP.of_below wX.o) (λ_ e=>e.elim) (λ_ e=>e.elim),HU.o,λg e=>⟨λe2=>by
     have h1:=(ig.o _ _ _ FI.o g e2).1
     have h2:=(HU.o.lt e).2.1
     have:=FU.o
     omega,(HU.o.lt e).1⟩⟩
   clear hS hp hu wT HKG jU BG Wt Qj VC VD bK vQ;gi_wp2;gi_loopg [6,38] n' (λk _ v38 wr=>∃(K:Nat->Prop) (i:Nat),v38=vi i/\i<=n'/\n'-i<=k/\Hid (J K (l'.take i) wr/\gB wr w7.heap.size (.slice a n' c) l'/\(∀g,(acK.slice a n' c).ownBlock=some g->¬K g/\g<wr.heap.size)))
   case atStart=>exact⟨K,0,rfl,Nat.zero_le _,aa,HJ8⟩
   case round =>
    clear HJ8;obtain⟨K,i,rfl,hil,hik,hrd⟩:=hrel;have bK:=az hrd.o;clear hrd;by_cases hlt:i<n'
    ·obtain⟨g,hg⟩:=bK.o.2.1.some (by rw[HN'.o];exact hlt);have hcell:∀g,a=some ⟨g,0,none⟩->wr.cell? ⟨g,i,none⟩=some (vw (l'.getD i 0)):=λg e=>by
      have h1:=bK.o.2.1;rw[e,<-HN'.o]at h1;exact h1.ur.cell (by rw[HN'.o];exact hlt)
     have c5:=hcell g hg;subst hg;have q1:(i:Int)<(n':Int):=aa;have q2:adk.wrap ((i:Int)+1)=(i:Int)+1:=adl _ aa;obtain⟨x,hx⟩:∃x,l'.getD i 0=x:=⟨_,rfl⟩;rw[hx]at c5;obtain⟨fn,tmps,assign,body,hy,hR⟩:=HY.o K (l'.take i) x wr bK.o.1 (by rw[List.length_take];have:=HL.o.2.1;omega);have HR:=az hR;have zQ:Hid (l'.take i++[x]=l'.take (i+1)):=az (by
      have hlt2:i<l'.length:=by rw[HN'.o];exact hlt
      rw[List.take_succ_eq_append_getElem hlt2,<-hx]
      simp[List.getD,hlt2])
     clear hR hcell hx;gi_wp2;refine HR.o.mono ?_;rintro e W4 ⟨rfl,K',Tm,YF,hsub⟩;have Vz:Hid (J K' (l'.take (i+1)) W4/\gB W4 w7.heap.size (.slice (some ⟨g,0,none⟩) n' c) l'/\(∀g',(acK.slice (some ⟨g,0,none⟩) n' c).ownBlock=some g'->¬K' g'/\g'<W4.heap.size)) :=
      az ⟨by rw[<-zQ.o];exact Tm,bK.o.2.1.aJ YF (λg' e=>(bK.o.2.2 g' e).1),λg' e=>⟨λe2=>by
       rcases hsub g' e2 with e3|e3
       exact(bK.o.2.2 g' e).1 e3
       have:=(bK.o.2.2 g' e).2;omega,by have:=(bK.o.2.2 g' e).2;have:=YF.size;omega⟩⟩
     clear Tm YF hsub hy c5;gi_wp2;gi_roundg (n'-(i+1))
     case measure=>omega
     case rel=>exact⟨K',i+1,by first|rfl|go_num|(congr 1;omega),aa,aa,Vz⟩
    obtain rfl:i=n':=aa;gi_wp2;go_end0;exact⟨⟨_,rfl⟩,K,l',HL.o,by have:=bK.o.1;rwa[<-HN'.o,List.take_length]at this⟩
  have hok:MP.Ok left:=by obtain⟨_,_,_,_,_,_,_,_,_,_,_,_,hok⟩:=bK.o.2.1;exact hok
  have hget:=MP.dR hok hmem;have hdl:(MP.del left kk).length+1=left.length:=MP.o8 hget;have hrl:=bK.o.2.1.lt;have iH:Hid (kZ (.pointer (some ⟨r,0,none⟩)) (.tuple #[.bool true,.int .u32 kk,.agg #[vi pb,vi pp]]) wr w4):=az ⟨hnx⟩;have hne:tm≠r:=by have:=HW2.o;omega
  obtain⟨w5,hdel,hm5,hg5⟩:=xH (bK.o.1.aJ hc2 hne) kk;have vQ:=az hdel;have HC5:Hid (aP (λm=>m=tm) w4 w5):=az ((aP.refl _ _).grown hg5 (λk e=>by cases e;exact .inl rfl));have ql:Hid (bz w5 tm .u32 dz (MP.del M kk)/\gL w5 r X.bg .u32 dz (MP.del left kk)/\acN W.heap.size W w5/\∀n,(MP.has (MP.del M kk) n&& !Qh (MP.del left kk) n)=(MP.has M1 n&& !MP.has X.D n)) :=
   az ⟨hm5,hit2.aJ HC5.o (by have:=D6.o;omega) (λe=>hne e.symm),eY (eY bK.o.2.2.1 hc2 (λm e=>by rw[e];exact HW2.o.2)) HC5.o (λm e=>by rw[e];have:=Zu.o;omega),λn=>by
    rw[<-bK.o.2.2.2 n,zW,zW,jN bK.o.1.ok,jN hok]
    by_cases e:kk=n
    rw[if_pos e]
    have:MP.has left n=true:=by rw[<-e];unfold MP.has;rw[hget];rfl
    rw[this]
    simp
    rw[if_neg e,if_neg e]⟩
  clear hnx hit2 hc2 hmem hok hget hrl hdel hm5 hg5 HC5 bK;gi_wp2_with (first|(gi_at_next;refine eD rfl (.tmp 20) rfl rfl (iH.o.run _) ?_)|(refine lT rfl (.tmp 25) (.tmp 26) rfl rfl rfl (vQ.o.run _) ?_));gi_roundg (MP.del left kk).length
  case measure=>omega
  case rel=>exact⟨_,_,aj,ql⟩
end us
end Go.Proofs.YtllmbcigmimgoaaGreat
