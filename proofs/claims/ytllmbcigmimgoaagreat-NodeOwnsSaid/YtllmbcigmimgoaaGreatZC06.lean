/-
  Lemmas for a law's proof, put together from several texts. No conditions of their own.
-/
import Derived.Test.YtllmbcigmimgoaaGreatZC05
import Derived.Test.YtllmbcigmimgoaaGreatZC02
import Derived.Shelf.Slices.Clone
import Derived.Shelf.Slices.CompactI
import Derived.Shelf.Slices.Reverse
import Derived.Shelf.Sort.Plain
import Derived.Shelf.Slices.In.SortNone
import Derived.Sort.OwnSortedInts
import Derived.Lib.OwnBridge
import Derived.Ground.NamesProg
import Derived.Ground.Names2Prog
import Derived.Test.YtllmbcigmimgoaaGreatZC01
import Derived.DeepKeys4
import Derived.WideKeyEntry
import Derived.Test.YtllmbcigmimgoaaGreatZC04
import Derived.Test.YtllmbcigmimgoaaGreatZC03
import Derived.BigQuiet
import Derived.Deep.CutRange
import Derived.Deep.CutBlock
set_option maxRecDepth 100000
set_option maxHeartbeats 20000000
set_option linter.all false
namespace Go.Proofs
open _root_.Go.Proofs.Tryz
open Shelf
def Tryz.laysClone_ren:Go.Shelf.Ren:=⟨fun|15=>93|n=>n,fun|22=>31|3=>3|4=>4|n=>n,fun|n=>n⟩
theorem Tryz.laysClone:Go.Proofs.Lays2.n15 Tryz.prog Tryz.laysClone_ren:={mixed:=by kernel_rfl,f15:=hS func93,t3:=underlying3,a3:=isAgg3,z3:=sizeOf3,v3:=zeroValue3,t4:=underlying4,a4:=isAgg4,z4:=sizeOf4,v4:=zeroValue4,t22:=underlying31,a22:=isAgg31,z22:=sizeOf31,v22:=zeroValue31,i3:=by kernel_rfl}
def Tryz.laysCompact_ren:Go.Shelf.Ren:=⟨fun|20=>95|n=>n,fun|22=>31|3=>3|4=>4|0=>0|n=>n,fun|n=>n⟩
theorem Tryz.laysCompact:Go.Proofs.Lays2.n20 Tryz.prog Tryz.laysCompact_ren:={mixed:=by kernel_rfl,f20:=hS func95,t0:=underlying0,a0:=isAgg0,z0:=sizeOf0,v0:=zeroValue0,t3:=underlying3,a3:=isAgg3,z3:=sizeOf3,v3:=zeroValue3,t4:=underlying4,a4:=isAgg4,z4:=sizeOf4,v4:=zeroValue4,t22:=underlying31,a22:=isAgg31,z22:=sizeOf31,v22:=zeroValue31,i3:=by kernel_rfl}
def Tryz.laysReverse_ren:Go.Shelf.Ren:=⟨fun|112=>47|n=>n,fun|28=>31|3=>3|4=>4|0=>0|n=>n,fun|n=>n⟩
theorem Tryz.laysReverse:Go.Proofs.Lays.n112 Tryz.prog Tryz.laysReverse_ren:={mixed:=by kernel_rfl,f112:=hS func47,t0:=underlying0,a0:=isAgg0,z0:=sizeOf0,v0:=zeroValue0,t3:=underlying3,a3:=isAgg3,z3:=sizeOf3,v3:=zeroValue3,t4:=underlying4,a4:=isAgg4,z4:=sizeOf4,v4:=zeroValue4,t28:=underlying31,a28:=isAgg31,z28:=sizeOf31,v28:=zeroValue31}
def Tryz.laysSort_ren:Go.Shelf.Ren:=⟨fun|189=>94|125=>127|257=>126|128=>162|129=>163|294=>153|295=>154|296=>155|297=>156|298=>157|299=>158|216=>159|300=>160|301=>161|328=>177|329=>178|330=>179|331=>180|332=>181|215=>182|343=>210|n=>n,fun|28=>31|3=>3|46=>197|0=>0|51=>118|53=>150|4=>4|183=>215|182=>214|131=>157|5=>5|9=>9|218=>236|222=>240|228=>266|229=>267|n=>n,fun|n=>n⟩
theorem Tryz.laysSort:Go.Proofs.Lays.n189 Tryz.prog Tryz.laysSort_ren:={mixed:=by kernel_rfl,f125:=hS func127,f128:=hS func162,f129:=hS func163,f189:=hS func94,f215:=hS func182,f216:=hS func159,f257:=hS func126,f294:=hS func153,f295:=hS func154,f296:=hS func155,f297:=hS func156,f298:=hS func157,f299:=hS func158,f300:=hS func160,f301:=hS func161,f328:=hS func177,f329:=hS func178,f330:=hS func179,f331:=hS func180,f332:=hS func181,f343:=hS func210,t0:=underlying0,a0:=isAgg0,z0:=sizeOf0,v0:=zeroValue0,t3:=underlying3,a3:=isAgg3,z3:=sizeOf3,v3:=zeroValue3,t4:=underlying4,a4:=isAgg4,z4:=sizeOf4,v4:=zeroValue4,t5:=underlying5,a5:=isAgg5,z5:=sizeOf5,v5:=zeroValue5,t9:=underlying9,a9:=isAgg9,z9:=sizeOf9,v9:=zeroValue9,t28:=underlying31,a28:=isAgg31,z28:=sizeOf31,v28:=zeroValue31,t46:=underlying197,a46:=isAgg197,z46:=sizeOf197,v46:=zeroValue197,t51:=underlying118,a51:=isAgg118,z51:=sizeOf118,v51:=zeroValue118,t53:=underlying150,a53:=isAgg150,z53:=sizeOf150,v53:=zeroValue150,t131:=underlying157,a131:=isAgg157,z131:=sizeOf157,v131:=zeroValue157,t182:=underlying214,a182:=isAgg214,z182:=sizeOf214,v182:=zeroValue214,t183:=underlying215,a183:=isAgg215,z183:=sizeOf215,v183:=zeroValue215,t218:=underlying236,a218:=isAgg236,z218:=sizeOf236,v218:=zeroValue236,t222:=underlying240,a222:=isAgg240,z222:=sizeOf240,v222:=zeroValue240,t228:=underlying266,a228:=isAgg266,z228:=sizeOf266,v228:=zeroValue266,t229:=underlying267,a229:=isAgg267,z229:=sizeOf267,v229:=zeroValue267}
end Go.Proofs
namespace Go.Proofs
open _root_.Go.Proofs.Tryz
open Shelf
def Tryz.laysPow_ren:Go.Shelf.Ren:=⟨fun|329=>178|125=>127|128=>162|129=>163|n=>n,fun|3=>3|46=>197|51=>118|53=>150|4=>4|5=>5|9=>9|n=>n,fun|n=>n⟩
theorem Tryz.laysPow:Go.Proofs.Lays.n329 Tryz.prog Tryz.laysPow_ren:={mixed:=by kernel_rfl,f125:=hS func127,f128:=hS func162,f129:=hS func163,f329:=hS func178,t3:=underlying3,a3:=isAgg3,z3:=sizeOf3,v3:=zeroValue3,t4:=underlying4,a4:=isAgg4,z4:=sizeOf4,v4:=zeroValue4,t5:=underlying5,a5:=isAgg5,z5:=sizeOf5,v5:=zeroValue5,t9:=underlying9,a9:=isAgg9,z9:=sizeOf9,v9:=zeroValue9,t46:=underlying197,a46:=isAgg197,z46:=sizeOf197,v46:=zeroValue197,t51:=underlying118,a51:=isAgg118,z51:=sizeOf118,v51:=zeroValue118,t53:=underlying150,a53:=isAgg150,z53:=sizeOf150,v53:=zeroValue150}
def Tryz.laysNext_ren:Go.Shelf.Ren:=⟨fun|330=>179|n=>n,fun|228=>266|53=>150|0=>0|218=>236|46=>197|n=>n,fun|n=>n⟩
theorem Tryz.laysNext:Go.Proofs.Lays.n330 Tryz.prog Tryz.laysNext_ren:={mixed:=by kernel_rfl,f330:=hS func179,t0:=underlying0,a0:=isAgg0,z0:=sizeOf0,v0:=zeroValue0,t46:=underlying197,a46:=isAgg197,z46:=sizeOf197,v46:=zeroValue197,t53:=underlying150,a53:=isAgg150,z53:=sizeOf150,v53:=zeroValue150,t218:=underlying236,a218:=isAgg236,z218:=sizeOf236,v218:=zeroValue236,t228:=underlying266,a228:=isAgg266,z228:=sizeOf266,v228:=zeroValue266}
end Go.Proofs
namespace Go.Proofs.YtllmbcigmimgoaaGreat
open _root_.Go.Proofs.Tryz
open _root_.Array renaming toList_push->aeb,getElem?_setIfInBounds->af3
open _root_.Classical renaming byContradiction->ad2
open _root_.Go renaming World->acL,Value->acK,Calls->ac4,run_underlying->acQ,IntKind->acS
open _root_.Go.Calls renaming quiet_of_same->af1
open _root_.Go.Ending renaming returned->ab4
open _root_.Go.Instr renaming lookup->abw,entryStore->aeu,mapEntry->aeS
open _root_.Go.IntKind renaming i64->adk
open _root_.Go.IntWalk renaming i64_in->adl
open _root_.Go.Lib renaming compact->aec,compactUpTo->aeY
open _root_.Go.MapKept renaming run_getObj_map->aav,run_setObj_map->acV
open _root_.Go.Obj renaming cells->ach,deferred->adL
open _root_.Go.Result renaming andThen->aax
open _root_.Go.RowKit renaming Below->acN
open _root_.Go.Value renaming slice->aco,tuple->adg
open _root_.Int renaming toNat_natCast->acW,tdiv_eq_ediv_of_nonneg->ae3
open _root_.List renaming range->ac9,mem_singleton->adf,flatMap_append->ae0,mem_append->aaS,mem_map->aay,mem_range->aeg,range_succ->ae2,getElem?_eq_some_iff->aaB,length_map->abT,eq_nil_of_length_eq_zero->aaY,map_append->aef,nodup_append->aeW,pairwise_iff_getElem->aeo,mem_flatMap->aik,flatMap_cons->aaQ,pairwise_append->aiw,pairwise_singleton->ai5,getElem?_map->aeX,pairwise_map->afm,take_of_length_le->ac0,flatMap_nil->afe,pairwise_flatMap->aiu,append_nil->adS
open _root_.List.Pairwise renaming nil->air
open _root_.Nat renaming le_trans->abX
open _root_.Option renaming isSome_iff_exists->aeV
open _root_.Or renaming inl->ack,inr->acm
namespace po
open RowKit Shelf Go.Sort mgr ft pl ino nd
section
variable{w w':acL}{b0:Nat}{v:acK}{l:List Int}
def dZ.zy (h:dZ w b0 v l):∃a c,v=aco a l.length c/\jC w a l/\l.length<=c:=by
 rcases h.2 with⟨rfl,h0⟩|⟨g,cap,cur,rfl,_,_,hn,_⟩;exact⟨none,0,by rw[h0],ack (aaY h0),aa⟩;refine⟨some ⟨g,0,none⟩,cap,rfl,acm ⟨g,0,rfl,λi hi=>?_⟩,hn⟩;have hc:=acL.ownsRow.cellAt h i aa;rw[Nat.zero_add,hc];simp[List.getD,hi]
def KS (a:Option Addr)(l:List Int)(c:Nat)(h:jC w a l)(hl:l.length<=1000000):ac4 prog 93 #[aco a l.length c] w λe w'=>∃v',e=ab4 v'/\dZ w' w.heap.size v' l/\acN w.heap.size w w':=by
 rcases h with h0|⟨b,o,rfl,h⟩;subst h0;cases a with
 |none =>
  refine(Any.slices_Clone_int_nil laysClone 0 c w).mono ?_;rintro e w' ⟨rfl,rfl⟩;exact⟨_,rfl,acL.ownsRow_nil _ _ _ _,ak⟩
 |some a =>
  refine(Any.slices_Clone_int_zero laysClone a c w).mono ?_;rintro e w' ⟨v',rfl,h1,_,h3⟩;exact⟨v',rfl,h1,h3⟩
 refine(Any.slices_Clone_int laysClone b o l.length c l w aj aa h).mono ?_;rintro e w' ⟨v',rfl,h1,_,h3⟩;rw[ac0 aj]at h1;exact⟨v',rfl,h1,h3⟩
def FX (h:dZ w b0 v l)(hl:l.length<=1000000):ac4 prog 47 #[v] w λe w'=>e=ab4 (adg #[])/\dZ w' b0 v l.reverse/\aP (λn=>v.ownBlock=some n) w w':=by
 by_cases hv:v=aco none 0 0;have h0:l=[]:=by
  rcases h.2 with⟨_,h0⟩|⟨g,cap,cur,e,_⟩;exact aaY h0;rw[hv]at e;cases e
 subst h0 hv;refine(Any.slices_Reverse_int_empty laysReverse none 0 w).mono ?_;rintro e w' ⟨rfl,rfl⟩;exact⟨rfl,h,aP.refl _ _⟩;obtain⟨g,cap,rfl,hb,hlt,hn,hm,_,hH⟩:=Lib.holds_of_ownsRow (enc:=acK.int .i64) h hv;refine(Any.slices_Reverse_int laysReverse g 0 cap l w hH aa).mono ?_;rintro e w' ⟨rfl,n,rfl⟩;refine⟨rfl,?_,?_⟩;have:=Lib.ownsRow_putRow (q:=n) (k:=l.length) (ys:=l.reverse) h ai aj;unfold dZ;rw[List.length_reverse];rwa[ac0 ai]at this;have hg:=grownBy_sortedI (w:=w) (g:=g) (n:=n) (os:=#[]) l.reverse.toArray;rw[grow_empty]at hg
 exact⟨hg.os,hg.tape,hg.output,hg.size,λk hk hne=>hg.block k hk (λe=>hne (by simpa[acK.ownBlock] using e.symm))⟩
def Eo (h:dZ w b0 v l)(hl:l.length<=1000000):ac4 prog 94 #[v] w λe w'=>e=ab4 (adg #[])/\dZ w' b0 v (l.mergeSort λx y=>decide (x<=y))/\aP (λn=>v.ownBlock=some n) w w':=by
 by_cases hv:v=aco none 0 0;have h0:l=[]:=by
  rcases h.2 with⟨_,h0⟩|⟨g,cap,cur,e,_⟩;exact aaY h0;rw[hv]at e;cases e
 subst h0 hv;refine(Any.slices_Sort_int_none laysSort none 0 w).mono ?_;rintro e w' ⟨rfl,rfl⟩;exact⟨rfl,by simpa using h,aP.refl _ _⟩;obtain⟨g,cap,rfl,hb,hlt,hn,hm,_,hH⟩:=Lib.holds_of_ownsRow (enc:=acK.int .i64) h hv;refine(Any.slices_Sort_int laysSort g 0 cap l w hH hlt aa).mono ?_;rintro e w' ⟨rfl,n,os,rfl⟩;refine⟨rfl,?_,?_⟩;rcases h.2 with⟨e0,_⟩|⟨g',cap',cur,e0,hb',hg',h1,h2,h3,h4⟩;cases e0;injection e0 with e1 _ e3;injection e1 with e1;injection e1 with e1;subst e1 e3;unfold dZ;rw[List.length_mergeSort];exact ownsRow_sortedI (ss:=l) (ts:=l.mergeSort λx y=>decide (x<=y)) ai hb' hg' h1 h2 h3
 have hg:=grownBy_sortedI (w:=w) (g:=g) (n:=n) (os:=os) (l.mergeSort λx y=>decide (x<=y)).toArray;exact⟨hg.os,hg.tape,hg.output,hg.size,λk hk hne=>hg.block k hk (λe=>hne (by simpa[acK.ownBlock] using e.symm))⟩
def F6 (h:dZ w b0 v l)(hl:l.length<=1000000):ac4 prog 95 #[v] w λe w'=>∃v',e=ab4 v'/\dZ w' b0 v' (aec l)/\aP (λn=>v.ownBlock=some n) w w':=by
 by_cases hv:v=aco none 0 0;have h0:l=[]:=by
  rcases h.2 with⟨_,h0⟩|⟨g,cap,cur,e,_⟩;exact aaY h0;rw[hv]at e;cases e
 subst h0 hv;refine(Any.slices_Compact_int_empty laysCompact none 0 w).mono ?_;rintro e w' ⟨rfl,rfl⟩;exact⟨_,rfl,h,aP.refl _ _⟩;obtain⟨g,cap,rfl,hb,hlt,hn,hm,_,hH⟩:=Lib.holds_of_ownsRow (enc:=acK.int .i64) h hv;refine(Any.slices_Compact_int laysCompact g 0 cap l w hH aa hn).mono ?_;rintro e w' ⟨rfl,n,rfl⟩;have hle:(aec l).length<=l.length:=by
  unfold aec aeY;rw[abT];exact abX (List.length_filter_le _ _) ai
 refine⟨_,rfl,?_,?_⟩;have:=Lib.ownsRow_putRow (q:=n) (k:=(aec l).length) (ys:=aec l++List.replicate (l.length-(aec l).length) 0) h (by simp;omega) hle;rwa[List.take_left' rfl]at this;have hg:=grownBy_sortedI (w:=w) (g:=g) (n:=n) (os:=#[]) (aec l++List.replicate (l.length-(aec l).length) 0).toArray;rw[grow_empty]at hg;exact⟨hg.os,hg.tape,hg.output,hg.size,λk hk hne=>hg.block k hk (λe=>hne (by simpa[acK.ownBlock] using e.symm))⟩
end
open MapKept
open ChangeMaps (setBlock heap_setBlock_same heap_setBlock_other)
def fJ (l f:Int):acK:=.agg #[vi l,vi f,vi 0]
def Ph (v:acK):Prop:=v=fJ 1 0\/v=fJ 2 (-1)\/∃k:Nat,k<32/\v=fJ 2 k
def Pj:(keyOf prog 111 (fJ 1 0)).isSome=true/\(keyOf prog 111 (fJ 2 (-1))).isSome=true/\(ac9 32).all (λk=>(keyOf prog 111 (fJ 2 (k:Nat))).isSome)=true:=by
 refine⟨ah,ah,ah⟩
def Ph.key {v:acK}(h:Ph v):∃l,keyOf prog 111 v=some l:=by
 obtain⟨h1,h2,h3⟩:=Pj;rcases h with rfl|rfl|⟨k,hk,rfl⟩;exact aeV.1 h1;exact aeV.1 h2;rw[List.all_eq_true]at h3;exact aeV.1 (h3 k (aeg.2 hk))
def TQ:laidOutB prog=true:=ah
def kF:WideMaps.KeyLaw prog 111:=deep_law_laid TQ (m:=2) aa (Nat.lt_of_succ_le (Nat.le_of_ble_eq_true ah)) ah ah
def l5 (w:acL)(b:Nat)(ks:List acK):Prop :=
 ∃es bA,w.heap[b]?=some (.map es bA)/\es.toList.map (·.key)=ks/\(∀x∈es.toList,∃n:Int,x.val=vi n)/\(∀x∈es.toList,x.born<bA)/\(es.toList.map (·.born)).Nodup/\ks.Nodup/\∀y∈ks,Ph y
open Classical in
noncomputable def oJ (ks:List acK) (k:acK):List acK:=if k∈ks then ks else ks++[k]
section
variable{w w':acL}{b:Nat}{ks:List acK}
def l5.lt (h:l5 w b ks):b<w.heap.size:=by
 obtain⟨es,c,hb,_⟩:=h;exact(Array.getElem?_eq_some_iff.1 hb).1
def l5.of_heap (h:l5 w b ks)(q:w'.heap[b]?=w.heap[b]?):l5 w' b ks:=by
 obtain⟨es,c,h1,h2⟩:=h;exact⟨es,c,q.trans h1,h2⟩
def l5.old (h:l5 w b ks)(q:acN w.heap.size w w'):l5 w' b ks:=h.of_heap (q.block b h.lt)
def l5.drew (h:l5 w b ks):l5 w.drew b ks:=h
def l5.made (w:acL):l5 (w.alloc (.map #[] 0)) w.heap.size [] :=
 ⟨#[],0,(heap_alloc w _).1,rfl,ai,ai,ai,List.nodup_nil,ai⟩
def l5.len (h:l5 w b ks)(ty:TypeId):(Builtin.len_ #[159] ty #[.map (some b)]).run prog w=.ok (goInt ks.length) w:=by
 obtain⟨es,bA,hb,hp,_⟩:=h;have hl:es.size=ks.length:=by rw[<-hp];simp
 simp[Builtin.len_,acQ underlying159,aav hb,aax,hl]
def Ep {W:acL}{es:Array MapEntry}{bA j st:Nat}{x:acK}(hb:W.heap[b]?=some (.map es bA))(hidx:es.findIdx? (λe=>((e.born:Nat):Int)==((st:Nat):Int))=some j) :
  (aeu 159 (.map (some b)) (vi st) x).run prog W=.ok () (setBlock W b (.map (es.modify j (λe=>{e with val:=x})) bA)):=by
 simp[aeu,aav hb,asInt,asIntOf,hidx,acV _ hb,aax,setBlock]
structure aia (w:acL)(b:Nat)(key:acK)(n0:Int)(st:Nat)(w1 w2:acL):Prop where
 look:(abw 159 (.map (some b)) key false).run prog w=.ok (vi n0) w
 entry:(aeS 159 (.map (some b)) key).run prog w=.ok (adg #[vi n0,vi st]) w1
 TR:(abw 159 (.map (some b)) key false).run prog w1=.ok (vi n0) w1
 store:(aeu 159 (.map (some b)) (vi st) (vi (adk.wrap (n0+1)))).run prog w1=.ok () w2
 aib:w.grownBy w1 (some b)
 grown:w.grownBy w2 (some b)
def gH {o o':Obj}(hb:w.heap[b]?=some o):w.grownBy (setBlock w b o') (some b) :=
 ⟨rfl,rfl,rfl,by simp[setBlock],λi _ hi=>(heap_set hb).2 i (λe=>hi (by rw[e]))⟩
def l5.bump (h:l5 w b ks){key:acK}(hk:Ph key):∃n0 st w1 w2,aia w b key n0 st w1 w2/\l5 w2 b (oJ ks key):=by
 obtain⟨es,bA,hb,hp,hv,hs,hn,hd,hw⟩:=h;obtain⟨kl,hkey⟩:=hk.key;have hz:∀u:acL,(zeroValue 3).run prog u=.ok (vi 0) u:=λu=>ah
 have hks:∀es:List MapEntry,(∀x∈es,Ph x.key)->∀e∈es,∃l,keyOf prog 111 e.key=some l:=λes h e he=>(h e he).key;have hwk:∀x∈es.toList,Ph x.key:=λx hx=>hw _ (by rw[<-hp];exact aay.2 ⟨x,hx,rfl⟩)
 have ht:=underlying159;rcases kF.find w hkey es.toList (hks _ hwk) with⟨h1,h2⟩|⟨j,e0,h1,h2,h3⟩;have hb1:(setBlock w b (.map (es.push ⟨key,vi 0,bA⟩) (bA+1))).heap[b]?=some (.map (es.push ⟨key,vi 0,bA⟩) (bA+1)):=(heap_set hb).1;have hnk:key ∉ ks:=λe=>by
  rw[<-hp]at e;obtain⟨x,hx,e⟩:=aay.1 e;exact h2 x hx e
 have hidx:(es.push ⟨key,vi 0,bA⟩).findIdx? (λe=>((e.born:Nat):Int)==((bA:Nat):Int))=some es.size:=by
  rw[WideElems.findIdx_arr];have:=WideElems.findIdx_born (l:=(es.push ⟨key,vi 0,bA⟩).toList) (j:=es.size) (e0:=⟨key,vi 0,bA⟩) (by
   simp only[aeb,aef,List.map_cons,List.map_nil]
   refine aeW.2 ⟨hn,ai,λa ha c hc e1=>?_⟩
   simp only[adf]at hc
   obtain⟨x,hx,rfl⟩:=aay.1 ha
   have:=hs x hx
   omega) ai
  exact this
 have hmod:∀val,(es.push ⟨key,vi 0,bA⟩).modify es.size (λe=>{e with val:=val})=es.push ⟨key,val,bA⟩:=λval=>by
  apply Array.ext';rw[Array.toList_modify,aeb,aeb,<-Array.length_toList,WideElems.modify_last]
 have hf1:(Instr.findKey 111 key (es.push ⟨key,vi 0,bA⟩).toList).run prog (setBlock w b (.map (es.push ⟨key,vi 0,bA⟩) (bA+1)))=.ok (some (es.size,vi 0)) (setBlock w b (.map (es.push ⟨key,vi 0,bA⟩) (bA+1))):=by
  rcases kF.find (setBlock w b (.map (es.push ⟨key,vi 0,bA⟩) (bA+1))) hkey (es.push ⟨key,vi 0,bA⟩).toList (hks _ (λx hx=>by
   rw[aeb]at hx
   rcases aaS.1 hx with hx|hx
   exact hwk x hx
   rw[adf]at hx;rw[hx];exact hk)) with⟨_,g2⟩|⟨j,e0,g1,g2,g3⟩
  exact absurd rfl (g2 ⟨key,vi 0,bA⟩ ai);rw[aeb]at g2;by_cases hj:j<es.toList.length;rw[List.getElem?_append_left hj]at g2;exact absurd g3 (h2 e0 (List.mem_of_getElem? g2));have hj2:j=es.toList.length:=by
   have:=(aaB.1 g2).1;simp at this hj;simp;omega
  subst hj2;rw[List.getElem?_append_right aj,Nat.sub_self]at g2;simp only[List.getElem?_cons_zero,Option.some.injEq]at g2;rw[g1,<-g2];simp
 refine⟨0,bA,setBlock w b (.map (es.push ⟨key,vi 0,bA⟩) (bA+1)),setBlock (setBlock w b (.map (es.push ⟨key,vi 0,bA⟩) (bA+1))) b (.map (es.push ⟨key,vi (adk.wrap (0+1)),bA⟩) (bA+1)),⟨?_,?_,?_,?_,gH hb,(gH hb).trans (gH hb1)⟩,?_⟩;simp[abw,acQ ht,aav hb,kF.check w es.isEmpty hkey,h1,hz,aax];simp[aeS,acQ ht,aav hb,kF.check w false hkey,h1,hz,acV _ hb,aax,setBlock,goInt];rw[aeb]at hf1;simp[abw,acQ ht,aav hb1,kF.check _ _ hkey,hf1,aax]
 have:=Ep (x:=vi (adk.wrap (0+1))) hb1 hidx;rwa[hmod]at this;refine⟨_,_,(heap_set hb1).1,?_,?_,?_,?_,?_,?_⟩;unfold oJ;rw[if_neg hnk,aeb,aef,hp];rfl;intro x hx;rw[aeb]at hx;rcases aaS.1 hx with hx|hx;exact hv x hx;rw[adf]at hx;rw[hx];exact⟨_,rfl⟩;intro x hx;rw[aeb]at hx;rcases aaS.1 hx with hx|hx;have:=hs x hx;omega;rw[adf]at hx;rw[hx];simp;rw[aeb,aef];refine aeW.2 ⟨hn,ai,λa ha c hc e1=>?_⟩;simp only[List.map_cons,List.map_nil,adf]at hc
 obtain⟨x,hx,rfl⟩:=aay.1 ha;have:=hs x hx;omega;unfold oJ;rw[if_neg hnk];exact aeW.2 ⟨hd,ai,λa ha c hc e1=>by rw[adf]at hc;rw[e1,hc]at ha;exact hnk ha⟩;unfold oJ;rw[if_neg hnk];intro y hy;rcases aaS.1 hy with hy|hy;exact hw y hy;rw[adf]at hy;rw[hy];exact hk;have hm0:=List.mem_of_getElem? h2;have hj:es[j]?=some e0:=by simpa using h2
 have hmk:key∈ks:=by rw[<-hp];exact aay.2 ⟨e0,hm0,h3⟩
 obtain⟨n0,hn0⟩:=hv e0 hm0;have hsame:es.modify j (λe=>{e with key:=key})=es:=by
  apply Array.ext';rw[Array.toList_modify,ChangeMaps.modify_eq_set _ _ _ _ h2];have:({e0 with key:=key}:MapEntry)=e0:=by rw[<-h3]
  rw[this];exact WideElems.set_self _ _ _ h2
 have hidx:es.findIdx? (λe=>((e.born:Nat):Int)==((e0.born:Nat):Int))=some j:=by
  rw[WideElems.findIdx_arr];exact WideElems.findIdx_born hn h2
 have hb1:(setBlock w b (.map es bA)).heap[b]?=some (.map es bA):=(heap_set hb).1;have hf1:=kF.find (setBlock w b (.map es bA)) hkey es.toList (hks _ hwk);have hf2:(Instr.findKey 111 key es.toList).run prog (setBlock w b (.map es bA))=.ok (some (j,e0.val)) (setBlock w b (.map es bA)):=by
  rcases hf1 with⟨_,g2⟩|⟨j',e',g1,g2,g3⟩;exact absurd h3 (g2 e0 hm0);have hjj:j'=j:=by
   have a1:ks[j']?=some key:=by rw[<-hp,aeX,g2,Option.map_some,g3]
   have a2:ks[j]?=some key:=by rw[<-hp,aeX,h2,Option.map_some,h3]
   have l1:=(aaB.1 a1).1;have l2:=(aaB.1 a2).1;have he:=(aaB.1 a1).2.trans (aaB.1 a2).2.symm;rcases Nat.lt_trichotomy j' j with c|c|c;exact absurd he ((aeo.1 hd) j' j l1 l2 c);exact c;exact absurd he.symm ((aeo.1 hd) j j' l2 l1 c)
  subst hjj;have he:e'=e0:=Option.some.inj (g2.symm.trans h2);subst he;exact g1
 refine⟨n0,e0.born,setBlock w b (.map es bA),setBlock (setBlock w b (.map es bA)) b (.map (es.modify j (λe=>{e with val:=vi (adk.wrap (n0+1))})) bA),⟨?_,?_,?_,?_,gH hb,(gH hb).trans (gH hb1)⟩,?_⟩;simp[abw,acQ ht,aav hb,kF.check w es.isEmpty hkey,h1,hn0,aax];simp[aeS,acQ ht,aav hb,kF.check w false hkey,h1,hj,h3,kF.stays w hkey,hsame,hn0,acV _ hb,aax,setBlock,goInt];simp[abw,acQ ht,aav hb1,kF.check _ _ hkey,hf2,hn0,aax]
 exact Ep hb1 hidx;have Df:(es.modify j (λe=>{e with val:=vi (adk.wrap (n0+1))})).toList=es.toList.set j {e0 with val:=vi (adk.wrap (n0+1))}:=by
  rw[Array.toList_modify,ChangeMaps.modify_eq_set _ _ _ _ h2]
 have hmem:∀x∈es.toList.set j {e0 with val:=vi (adk.wrap (n0+1))},x∈es.toList\/x={e0 with val:=vi (adk.wrap (n0+1))}:=λx hx=>List.mem_or_eq_of_mem_set hx
 refine⟨_,_,(heap_set hb1).1,?_,?_,?_,?_,?_,?_⟩;unfold oJ;rw[if_pos hmk,Df,List.map_set,hp];exact WideElems.set_self _ _ _ (by rw[<-hp,aeX,h2];rfl);intro x hx;rw[Df]at hx;rcases hmem x hx with hx|hx;exact hv x hx;rw[hx];exact⟨_,rfl⟩;intro x hx;rw[Df]at hx;rcases hmem x hx with hx|hx;exact hs x hx;rw[hx];exact hs e0 hm0;rw[Df,List.map_set];rw[WideElems.set_self (es.toList.map (·.born)) j e0.born (by rw[aeX,h2];rfl)];exact hn;unfold oJ;rw[if_pos hmk];exact hd;unfold oJ;rw[if_pos hmk];exact hw
end
variable{w w':acL}
def Er {l:List Int}(h:l.Pairwise (·<·)){k:Nat}(h1:1<=k)(hk:k<l.length):l.getD (k-1) 0<l.getD k 0:=by
 have:=(aeo.1 h) (k-1) k aa hk aa;simpa[List.getD,hk,show k-1<l.length by omega] using this
def Pk (a:Option Addr)(l:List Int)(c:Nat)(h:jC w a l)(hl:l.length<=1000000)(hr:l.Pairwise (·<·)):ac4 prog 92 #[aco a l.length c] w λe w'=>e=ab4 (.bool true)/\acN w.heap.size w w':=by
 have HR:=az h;have HP:=az hr;have HL:=az hl;clear h hr hl;obtain⟨n,hn⟩:∃n,n=l.length:=⟨_,rfl⟩;have HN:=az hn;rw[<-hn];clear hn;go_in;go_wp2_with fail;go_step3;go_wp2_with fail;go_step3;go_wp2_with fail;go_loopw [3,4] (λg i wr=>∃k:Nat,1<=k/\(k=1\/k<=n)/\g=.bool true/\i=vi k/\Hid (acN w.heap.size w wr)) (λ_ i _=>n-(intOf i).toNat)
 case atStart=>exact⟨1,aj,ack rfl,rfl,rfl,az ak⟩
 case round =>
  obtain⟨k,h1,h2,rfl,rfl,hb⟩:=hrel;by_cases hk:k<n
  ·obtain⟨b,o,rfl,c1⟩:=(HR.o.below hb.o).lookup (i:=k) (by rw[<-HN.o];exact hk);obtain⟨b',o',e,c0⟩:=(HR.o.below hb.o).lookup (i:=k-1) (by rw[<-HN.o];omega);injection e with e;injection e with e1 e2;subst e1 e2;have hlt:=Er HP.o h1 (by rw[<-HN.o];exact hk);generalize l.getD k 0=x at*;generalize l.getD (k-1) 0=y at*;have r1:adk.wrap ((k:Int)-1)=((k-1:Nat):Int):=by rw[adl _ (by have:=HL.o;have:=HN.o;omega)];omega
   have r2:adk.wrap ((k:Int)+1)=((k+1:Nat):Int):=by rw[adl _ (by have:=HL.o;have:=HN.o;omega)];omega
   have n1:(k:Int)<(n:Int):=aa;have n2:¬x<=y:=aa;have n3:(0:Int)<=((k-1:Nat):Int):=aa;have n4:((k-1:Nat):Int)<(n:Int):=aa;have HK:Hid (1<=k/\k<n):=az ⟨h1,hk⟩;have HB2:=az (hb.o.drew);clear hb hlt h1 h2 hk;go_upto_region 5 with fail;go_region;go_wp2;go_roundw
   case rel=>exact⟨k+1,aa,acm (by have:=HK.o;omega),rfl,rfl,HB2⟩
   case measure=>have:=HK.o;simp[intOf];omega
  have n1:¬(k:Int)<(n:Int):=aa;have HB:=hb;clear hb;go_wp2;go_ret;exact⟨rfl,HB.o⟩
noncomputable def fK (ks:List acK) (n:Nat):List acK:=if n<6 then ks else if n<38 then oJ ks (fJ 1 0) else oJ (oJ ks (fJ 2 (-1))) (fJ 2 ((n-38)/32:Nat))
noncomputable def fZ (l:List Nat):List acK:=l.foldl fK []
def TS (l:List Nat)(n:Nat):fZ (l++[n])=fK (fZ l) n:=by
 unfold fZ;rw[List.foldl_append];rfl
def BI (ks:List acK)(k:acK):(oJ ks k).length<=ks.length+1:=by
 unfold oJ;split;omega;simp
def BJ (l:List Nat):(fZ l).length<=2*l.length:=by
 have key:∀(l:List Nat) (ks:List acK),(l.foldl fK ks).length<=ks.length+2*l.length:=by
  intro l;induction l with
  |nil=>intro ks;simp
  |cons n l ih =>
   intro ks;rw[List.foldl_cons,List.length_cons];have h1:=ih (fK ks n);have h2:(fK ks n).length<=ks.length+2:=by
    unfold fK;split;omega;split;have:=BI ks (fJ 1 0);omega;have h1:=BI ks (fJ 2 (-1));have h2:=BI (oJ ks (fJ 2 (-1))) (fJ 2 ((n-38)/32:Nat));omega
   omega
 have:=key l [];simpa[fZ] using this
def agB (a:Option Addr)(l:List Nat)(c:Nat)(h:jC w a (l.map λ(n:Nat)=>(n:Int)))(hl:∀n∈l,n<1062)(hln:l.length<=1000000)(hr:l.Pairwise (·<·)) :
  ac4 prog 54 #[vi 64,aco a l.length c] w λe w'=>e=ab4 (adg #[vi (l.length+(fZ l).length:Nat),vi 0])/\acN w.heap.size w w':=by
 have HR:=az h;have HL:=az hl;have HRI:Hid (∀W,acN w.heap.size w W->ac4 prog 92 #[aco a l.length c] W λe w'=>e=ab4 (.bool true)/\acN W.heap.size W w'):=az (λW hb=>by
  have:=Pk a (l.map λ(n:Nat)=>(n:Int)) c (h.below hb) (by simpa using hln) (by rw[afm];exact hr.imp (λh=>aa))
  rwa[abT]at this)
 have hmm:=@run_makeMap prog;have je:=az hln;clear h hl hr hln;obtain⟨n,hn⟩:∃n,n=l.length:=⟨_,rfl⟩;have HN:=az hn;rw[<-hn]at HRI ⊢;clear hn;go_in;go_wp2_with fail;refine Kt.mono ?_;rintro e w' ⟨rfl,rfl⟩;go_wp2_with fail;refine(HRI.o _ ak).mono ?_;rintro e w1 ⟨rfl,hb1⟩;go_upto_region 4 with fail;have HB2:Hid (acN w'.heap.size w' (w1.alloc (.map #[] 0))):=az (hb1.alloc hb1.size _);have yC:=az (l5.made w1);have GU:Hid (w'.heap.size<=w1.heap.size):=az hb1.size;change Code.wp _ _ _ _ (w1.alloc (.map #[] 0));generalize w1.alloc (.map #[] 0)=w2 at*;generalize w1.heap.size=b at*
 clear hb1 hmm HRI;go_wp2_with fail;go_loopw [22] (λi wr=>∃k:Nat,k<=n/\i=vi k/\Hid (acN w'.heap.size w' wr/\l5 wr b (fZ (l.take k)))) (λi _=>n-(intOf i).toNat)
 case atStart=>exact⟨0,Nat.zero_le _,rfl,az ⟨HB2.o,yC.o⟩⟩
 case round =>
  clear HB2 yC;obtain⟨k,hk,rfl,hr⟩:=hrel;by_cases hkn:k<n
  ·have hkl:k<l.length:=by rw[<-HN.o];exact hkn
   obtain⟨b0,o0,rfl,c1⟩:=(HR.o.below hr.o.1).lookup (i:=k) (by simpa using hkl);obtain⟨m,hm⟩:∃m,m=l.getD k 0:=⟨_,rfl⟩;have Df:l[k]'hkl=m:=by rw[hm];simp[List.getD,hkl]
   have hm2:m<1062:=by rw[<-Df];exact HL.o _ (List.getElem_mem hkl)
   have Xg:(l.map λ(n:Nat)=>(n:Int)).getD k 0=(m:Int):=by rw[<-Df];simp[List.getD,hkl]
   rw[Xg]at c1;have Nf:Hid (fZ (l.take (k+1))=fK (fZ (l.take k)) m):=az (by rw[List.take_add_one,List.getElem?_eq_getElem hkl,Df];exact TS _ _);have jU:Hid (k<n):=az hkn;have n1:(k:Int)<(n:Int):=aa;have r2:adk.wrap ((k:Int)+1)=((k+1:Nat):Int):=by rw[adl _ (by have:=je.o;have:=HN.o;omega)];omega
   clear hm Df Xg hkl hk hkn;go_wp2_with fail;refine(Ba (w:=wr) m hm2).mono ?_;rintro e w3 ⟨rfl,hb3⟩;have HW:Hid (PI.way m=if m<6 then (0,m,0) else if m<38 then (1,m-6,0) else (2,(m-38)/32,(m-38)%32)):=az rfl;have hwr:∀x y z,PI.way m=(x,y,z)->(PI.way m).1=x/\(PI.way m).2.1=y/\(PI.way m).2.2=z:=λx y z e=>by rw[e];exact⟨rfl,rfl,rfl⟩
   have MJ:=az hwr;clear hwr;generalize (PI.way m).1=x at*;generalize (PI.way m).2.1=y at*;generalize (PI.way m).2.2=z at*;go_upto_region 8 with fail;have HR4:Hid (acN w'.heap.size w' (w3.alloc (ach #[vi x,vi y,vi z] 111))/\l5 (w3.alloc (ach #[vi x,vi y,vi z] 111)) b (fZ (l.take k))):=az ⟨(hr.o.1.trans (hb3.mono hr.o.1.size)).alloc (abX hr.o.1.size hb3.size) _,(hr.o.2.old hb3).old ax⟩;have qK:=az (aD.new w3 111 #[vi x,vi y,vi z]);have Ik:Hid (b≠w3.heap.size):=az (by have:=hr.o.2.lt;have:=hb3.size;omega);change Code.wp _ _ _ _ (w3.alloc (ach #[vi x,vi y,vi z] 111))
   generalize w3.alloc (ach #[vi x,vi y,vi z] 111)=w4 at*;generalize w3.heap.size=g at*;have x0:w4.cell? ⟨g,0,none⟩=some (vi x):=qK.o.cell 0;have yC:=az hm2;clear hb3 hr c1 hm2;by_cases c6:m<6
   ·have HZ:Hid (fZ (l.take (k+1))=fZ (l.take k)):=az (by rw[Nf.o];unfold fK;rw[if_pos c6]);obtain⟨e1,e2,e3⟩:=MJ.o 0 m 0 (by rw[HW.o,if_pos c6]);subst e1 e2 e3;go_wp2;go_roundw
    case rel=>exact⟨k+1,by have:=jU.o;omega,rfl,by rw[HZ.o];exact HR4⟩
    case measure=>have:=jU.o;simp[intOf];omega
   by_cases c38:m<38
   ·have HZ:Hid (fZ (l.take (k+1))=oJ (fZ (l.take k)) (fJ 1 0)):=az (by rw[Nf.o];unfold fK;rw[if_neg c6,if_pos c38]);obtain⟨e1,e2,e3⟩:=MJ.o 1 (m-6) 0 (by rw[HW.o,if_neg c6,if_pos c38]);subst e1 e2 e3;obtain⟨n0,st,w5,w6,hbp,Xp⟩:=HR4.o.2.drew.bump (key:=fJ 1 0) (ack rfl);have GM:Hid (acN w'.heap.size w' w6/\l5 w6 b (fZ (l.take (k+1)))):=az ⟨HR4.o.1.drew.grown hbp.grown HR4.o.1.size (λr e=>by injection e with e;have:=GU.o;omega),by rw[HZ.o];exact Xp⟩;have l0:(abw 159 (.map (some b)) (.agg #[vi 1,vi 0,vi 0]) false).run prog w4.drew=.ok (vi n0) w4.drew:=hbp.look
    have l1:(aeS 159 (.map (some b)) (.agg #[vi 1,vi 0,vi 0])).run prog w4.drew=.ok (adg #[vi n0,vi st]) w5:=hbp.entry;have l2:(abw 159 (.map (some b)) (.agg #[vi 1,vi 0,vi 0]) false).run prog w5=.ok (vi n0) w5:=hbp.TR;have l3:(aeu 159 (.map (some b)) (vi st) (vi (adk.wrap (n0+1)))).run prog w5=.ok () w6:=hbp.store;clear hbp Xp HR4 HW MJ;go_upto_region 12 with fail;go_region;all_goals
     clear l0 l1 l2 l3;go_wp2;go_roundw
     case rel=>exact⟨k+1,by have:=jU.o;omega,rfl,GM⟩
     case measure=>have:=jU.o;simp[intOf];omega
   have HZ:Hid (fZ (l.take (k+1))=oJ (oJ (fZ (l.take k)) (fJ 2 (-1))) (fJ 2 ((m-38)/32:Nat))):=az (by rw[Nf.o];unfold fK;rw[if_neg c6,if_neg c38]);obtain⟨e1,e2,e3⟩:=MJ.o 2 ((m-38)/32) ((m-38)%32) (by rw[HW.o,if_neg c6,if_neg c38]);have hy:y<32:=by have:=yC.o;omega
   rw[<-e2]at HZ;clear e2 HW MJ;subst e1;obtain⟨n0,st,w5,w6,hbp,Xp⟩:=HR4.o.2.drew.bump (key:=fJ 2 (-1)) (acm (ack rfl));obtain⟨m0,su,w7,w8,hbq,hk8⟩:=Xp.drew.bump (key:=fJ 2 y) (acm (acm ⟨y,hy,rfl⟩));have hb6:acN w'.heap.size w' w6:=HR4.o.1.drew.grown hbp.grown HR4.o.1.size (λr e=>by injection e with e;have:=GU.o;omega);have GM:Hid (acN w'.heap.size w' w8/\l5 w8 b (fZ (l.take (k+1)))):=az ⟨hb6.drew.grown hbq.grown hb6.size (λr e=>by injection e with e;have:=GU.o;omega),by rw[HZ.o];exact hk8⟩;have O5:Hid (aD w6 g 111 #[vi 2,vi y,vi z]):=az (qK.o.drew.grown hbp.grown (λe=>Ik.o (by injection e with e;exact e.symm)))
   have l0:(abw 159 (.map (some b)) (.agg #[vi 2,vi (-1),vi 0]) false).run prog w4.drew=.ok (vi n0) w4.drew:=hbp.look;have l1:(aeS 159 (.map (some b)) (.agg #[vi 2,vi (-1),vi 0])).run prog w4.drew=.ok (adg #[vi n0,vi st]) w5:=hbp.entry;have l2:(abw 159 (.map (some b)) (.agg #[vi 2,vi (-1),vi 0]) false).run prog w5=.ok (vi n0) w5:=hbp.TR;have l3:(aeu 159 (.map (some b)) (vi st) (vi (adk.wrap (n0+1)))).run prog w5=.ok () w6:=hbp.store;have HQ:=az hbq;clear hbp Xp HR4 hbq hk8 hb6 HZ Nf qK hy;go_upto_region 14 with fail;go_region;all_goals
    clear l0 l1 l2 l3;have x1:w6.cell? ⟨g,1,none⟩=some (vi y):=O5.o.cell 1;have m0':(abw 159 (.map (some b)) (.agg #[vi 2,vi y,vi 0]) false).run prog w6.drew=.ok (vi m0) w6.drew:=HQ.o.look;have m1':(aeS 159 (.map (some b)) (.agg #[vi 2,vi y,vi 0])).run prog w6.drew=.ok (adg #[vi m0,vi su]) w7:=HQ.o.entry;have m2':(abw 159 (.map (some b)) (.agg #[vi 2,vi y,vi 0]) false).run prog w7=.ok (vi m0) w7:=HQ.o.TR;have m3':(aeu 159 (.map (some b)) (vi su) (vi (adk.wrap (m0+1)))).run prog w7=.ok () w8:=HQ.o.store;go_upto_region 15 with fail;go_region
    all_goals
     clear m0' m1' m2' m3' x1 x0;go_wp2;go_roundw
     case rel=>exact⟨k+1,by have:=jU.o;omega,rfl,GM⟩
     case measure=>have:=jU.o;simp[intOf];omega
  obtain rfl:k=n:=aa;have HRR:Hid (acN w'.heap.size w' wr/\l5 wr b (fZ l)):=az (by have h:=hr.o;rw[HN.o,ac0 aj]at h;exact h);have hm:(Builtin.len_ #[159] 3 #[.map (some b)]).run prog wr=.ok (vi (fZ l).length) wr:=HRR.o.2.len 3;have hkl:=BJ l;have r1:adk.wrap ((k:Int)+((fZ l).length:Int))=((k+(fZ l).length:Nat):Int):=by rw[adl _ (by have:=je.o;have:=HN.o;omega)];omega
  have n1:¬(k:Int)<(k:Int):=aa;clear hr hkl;obtain⟨ks,hks⟩:∃ks,ks=fZ l:=⟨_,rfl⟩;have HKE:=az hks;rw[<-hks]at HRR hm r1;clear hks;go_wp2;go_ret2;refine⟨?_,HRR.o.1⟩;rw[<-HKE.o];rfl
def yQ (d:Array Int)(n:Nat)(hs:∀i j,i<=j->j<n->d[i]!<=d[j]!):∀m,m<=n->(aeY d m).Pairwise (·<·)/\∀x,x∈aeY d m↔∃j,j<m/\d[j]! =x
 |0,_=>⟨air,λx=>⟨λh=>by simp[aeY]at h,λ⟨j,h,_⟩=>absurd h (Nat.not_lt_zero _)⟩⟩
 |m+1,hm=>by
  obtain⟨h1,h2⟩:=yQ d n hs m aa
  rw[Lib.compactUpTo_succ]
  by_cases hk:Lib.keeps d m=true
  rw[if_pos hk]
  refine⟨aiw.2 ⟨h1,ai5 _ _,λx hx y hy=>?_⟩,λx=>?_⟩
  rw[adf]at hy
  subst hy
  obtain⟨j,hj,rfl⟩:=(h2 x).1 hx
  unfold Lib.keeps at hk
  have hk:=of_decide_eq_true hk
  rcases hk with hk|hk
  omega
  have a1:=hs j (m-1) aa aa
  have a2:=hs (m-1) m aa aa
  omega
  rw[aaS,adf,h2]
  constructor
  rintro (⟨j,hj,e⟩|e)
  exact⟨j,aa,e⟩
  exact⟨m,aa,e.symm⟩
  rintro⟨j,hj,e⟩
  by_cases c:j=m
  exact acm (by rw[<-e,c])
  exact ack ⟨j,aa,e⟩
  rw[if_neg hk,adS]
  refine⟨h1,λx=>?_⟩
  rw[h2]
  have hk2:¬(m=0\/d[m]!≠d[m-1]!):=λe=>hk (by unfold Lib.keeps;exact decide_eq_true e)
  have hm0:m≠0:=λe=>hk2 (ack e)
  have hme:d[m]! =d[m-1]!:=ad2 λe=>hk2 (acm e)
  constructor
  rintro⟨j,hj,e⟩
  exact⟨j,aa,e⟩
  rintro⟨j,hj,e⟩
  by_cases c:j=m
  exact⟨m-1,aa,by rw[<-e,c,hme]⟩
  exact⟨j,aa,e⟩
def F7 (l:List Int):(aec (l.mergeSort λx y=>decide (x<=y))).Pairwise (·<·)/\∀x,x∈aec (l.mergeSort λx y=>decide (x<=y))↔x∈l:=by
 have hp:(l.mergeSort λx y=>decide (x<=y)).Pairwise (λa b=>decide (a<=b)=true):=List.pairwise_mergeSort (le:=λ(x y:Int)=>decide (x<=y)) (λa b c h1 h2=>by simp at h1 h2 ⊢;omega) (λa b=>by simp;omega) l;have hm:∀x,x∈(l.mergeSort λx y=>decide (x<=y))↔x∈l:=λx=>List.mem_mergeSort
 generalize (l.mergeSort λx y=>decide (x<=y))=zs at*;have hg:∀j (hj:j<zs.length),zs.toArray[j]! =zs[j]:=λj hj=>by simp[hj]
 obtain⟨h1,h2⟩:=yQ zs.toArray zs.length (λi j hij hj=>by
  rw[hg i aa,hg j hj]
  by_cases e:i=j
  subst e;exact Int.le_refl _
  have:=(aeo.1 hp) i j aa hj aa
  exact of_decide_eq_true this) zs.length aj
 refine⟨h1,λx=>?_⟩;rw[<-hm x];unfold aec;rw[h2];constructor;rintro⟨j,hj,rfl⟩;rw[hg j hj];exact List.getElem_mem hj;intro hx;obtain⟨j,hj,e⟩:=List.getElem_of_mem hx;exact⟨j,hj,by rw[hg j hj];exact e⟩
def span (a b:Nat):List Nat:=(ac9 (b-a)).map λk=>a+k
def BK (a b:Nat):(span a b).length=b-a:=by unfold span;simp
def I4 (a b n:Nat):n∈span a b↔a<=n/\n<b:=by
 unfold span;rw[aay];constructor;rintro⟨k,hk,rfl⟩;rw[aeg]at hk;omega;intro h;exact⟨n-a,by rw[aeg];omega,aa⟩
def TT (a k:Nat):span a (a+(k+1))=span a (a+k)++[a+k]:=by
 unfold span;rw[show a+(k+1)-a=k+1 by omega,show a+k-a=k by omega,ae2,aef];rfl
def TU {l:List Nat}(h:l.Pairwise (·<·)):∀N,(∀n∈l,n<N)->l.length<=N:=by
 intro N hN;have key:∀(l:List Nat) (a:Nat),l.Pairwise (·<·)->(∀n∈l,a<=n/\n<N)->l.length<=N-a:=by
  intro l;induction l with
  |nil=>intro a _ _;simp
  |cons x l ih =>
   intro a hp hb;obtain⟨h1,h2⟩:=List.pairwise_cons.1 hp;have hx:=hb x (List.mem_cons_self ..);have:=ih (x+1) h2 (λn hn=>⟨h1 n hn,(hb n (List.mem_cons_of_mem _ hn)).2⟩);rw[List.length_cons];omega
 have:=key l 0 h (λn hn=>⟨Nat.zero_le _,hN n hn⟩);omega
def Xq {l:List Int}(h:∀x∈l,0<=x):∃m:List Nat,l=m.map λ(n:Nat)=>(n:Int) :=
 ⟨l.map Int.toNat,by
  rw[List.map_map]
  conv=>lhs;rw[<-List.map_id l]
  exact List.map_congr_left λx hx=>by
   have:=h x hx
   show x=((x.toNat:Nat):Int)
   omega⟩
def Es {B:Nat}{w1 w2:acL}{F:Nat->Prop}(h:acN B w w1)(q:aP F w1 w2)(hF:∀n,F n->B<=n)(hB:B<=w1.heap.size):acN B w w2 :=
 ⟨q.os.trans h.os,q.tape.trans h.tape,q.output.trans h.output,abX h.size q.size,λn hn=>by
  exact(q.block n aa (λe=>by have:=hF n e;omega)).trans (h.block n hn)⟩
def TV (a:Option Addr)(l:List Nat)(c:Nat)(h:jC w a (l.map λ(n:Nat)=>(n:Int)))(hl:l.length<=2000)(x y:Nat)(hxy:x<=y)(hy:y<=2000) :
  ac4 prog 55 #[aco a l.length c,vi x,vi y] w λe w'=>∃(v':acK) (m:List Nat),e=ab4 v'/\dZ w' w.heap.size v' (m.map λ(n:Nat)=>(n:Int))/\m.Pairwise (·<·)/\(∀n,n∈m↔n∈l\/(x<=n/\n<y))/\acN w.heap.size w w':=by
 have FE:=az (KS a (l.map λ(n:Nat)=>(n:Int)) c h (by rw[abT];omega));rw[abT]at FE;have je:=az hl;have HY:=az hy;have HXY:=az hxy;have n1:(0:Int)<=(x:Int):=aa;have n2:(y:Int)<=131072:=aa;obtain⟨n,hn⟩:∃n,n=l.length:=⟨_,rfl⟩;rw[<-hn]at FE ⊢;clear hn h hl hy hxy;go_in;go_wp2_with fail;refine FE.o.mono ?_;rintro e w1 ⟨v1,rfl,ho1,hb1⟩;have yK:=az ho1;have HB1:=az hb1;clear ho1 hb1 FE;go_wp2_with fail;go_loopw [7,8] (λv i wr=>∃k:Nat,k<=y-x/\i=vi (x+k:Nat)/\Hid (dZ wr w.heap.size v ((l++span x (x+k)).map λ(n:Nat)=>(n:Int))/\acN w.heap.size w wr)) (λ_ i _=>y-(intOf i).toNat)
 case atStart=>exact⟨0,Nat.zero_le _,ai,az ⟨by unfold span;simpa using yK.o,HB1.o⟩⟩
 case round =>
  clear yK HB1;obtain⟨k,hk,rfl,hr⟩:=hrel;obtain⟨n5,GV⟩:∃m:Nat,m=x+k:=⟨_,rfl⟩;rw[<-GV]at hr ⊢;by_cases hlt:n5<y
  ·have n3:(n5:Int)<(y:Int):=aa;have r2:adk.wrap ((n5:Int)+1)=((n5+1:Nat):Int):=by rw[adl _ (by have:=HY.o;omega)];omega
   obtain⟨v5,w5,hrun,jT,hg5,hor⟩:=uT hr.o.1 (n5:Int) (by rw[abT,List.length_append,BK];have:=je.o;have:=HY.o;omega) hr.o.2.size;have RA:=az hrun;have HE:Hid (((l++span x n5).map λ(n:Nat)=>(n:Int))++[(n5:Int)]=(l++span x (x+(k+1))).map λ(n:Nat)=>(n:Int)):=az (by rw[TT,<-GV,<-List.append_assoc,aef (l₂:=[n5])];rfl);have HO:Hid (dZ w5 w.heap.size v5 ((l++span x (x+(k+1))).map λ(n:Nat)=>(n:Int))/\acN w.heap.size w w5):=az ⟨by rw[<-HE.o];exact jT,(hr.o.2.alloc hr.o.2.size _).grown hg5 (abX hr.o.2.size ai) (λr e=>(hr.o.1.lt e).2.1)⟩
   have HK:Hid (n5=x+k/\k<y-x):=az ⟨GV,aa⟩;clear hrun jT hg5 hor hr GV hk hlt HE;go_wp2_with (at_builtin;refine wpList_append_run rfl (.tmp 23) (.tmp 25) rfl rfl rfl RA.o.run ?_);go_roundw
   case rel=>exact⟨k+1,by have:=HK.o;omega,congrArg (acK.int .i64) (by have:=HK.o;omega),HO⟩
   case measure=>have:=HK.o;simp[intOf];omega
  have n3:¬(n5:Int)<(y:Int):=aa;have hn6:n5=y:=by have:=HXY.o;omega
  subst hn6;have HR:=hr;clear hr;have SQ:=az (Eo HR.o.1 (by rw[abT,List.length_append,BK];have:=je.o;have:=HY.o;omega));obtain⟨hp1,hp2⟩:=F7 ((l++span x n5).map λ(n:Nat)=>(n:Int));have HP:=az (And.intro hp1 hp2);clear hp1 hp2;have hsl:((l++span x n5).map λ(n:Nat)=>(n:Int)).length<=1000000:=by rw[abT,List.length_append,BK];have:=je.o;have:=HY.o;omega
  have HSL:Hid ((((l++span x n5).map λ(n:Nat)=>(n:Int)).mergeSort λx y=>decide (x<=y)).length<=1000000):=az (by rw[List.length_mergeSort];exact hsl);have HZ:Hid (∀z∈((l++span x n5).map λ(n:Nat)=>(n:Int)),0<=z):=az (λz hz=>by
   obtain⟨q,_,rfl⟩:=aay.1 hz
   omega)
  have HMM:Hid (∀q:Nat,(q:Int)∈((l++span x n5).map λ(n:Nat)=>(n:Int))↔q∈l\/(x<=q/\q<n5)):=az (λq=>by
   rw[aay]
   constructor
   rintro⟨r,hr,e⟩
   have:r=q:=aa
   subst this
   rw[aaS,I4]at hr
   exact hr
   intro h
   exact⟨q,by rw[aaS,I4];exact h,rfl⟩)
  clear hsl;generalize ((l++span x n5).map λ(n:Nat)=>(n:Int))=zs at*;go_wp2_with fail;refine SQ.o.mono ?_;rintro e w2 ⟨rfl,ho2,hc2⟩;have HCO:=az (F6 ho2 HSL.o);have HB2:Hid (acN w.heap.size w w2):=az (Es HR.o.2 hc2 (λn e=>(HR.o.1.lt e).2.1) HR.o.2.size);have yz:=az ho2;clear ho2 hc2 SQ;go_wp2_with fail;refine HCO.o.mono ?_;rintro e w3 ⟨v3,rfl,ho3,hc3⟩;have HB3:Hid (acN w.heap.size w w3):=az (Es HB2.o hc3 (λn e=>(yz.o.lt e).2.1) HB2.o.size);obtain⟨m,hm⟩:=Xq (l:=aec (zs.mergeSort λx y=>decide (x<=y))) (λz hz=>HZ.o z ((HP.o.2 z).1 hz))
  have HE:Hid (∃m:List Nat,dZ w3 w.heap.size v3 (m.map λ(n:Nat)=>(n:Int))/\m.Pairwise (·<·)/\∀n,n∈m↔n∈l\/(x<=n/\n<n5)):=az (by
   have h1:=HP.o
   rw[hm]at h1 ho3
   refine⟨m,ho3,?_,λq=>?_⟩
   have:=afm.1 h1.1
   exact this.imp (λh=>aa)
   rw[<-HMM.o q,<-h1.2,aay]
   constructor
   exact λh=>⟨q,h,rfl⟩
   rintro⟨r,hr,e⟩
   have:r=q:=aa
   rw[<-this]
   exact hr)
  clear hm ho3 hc3 HCO;go_wp2;go_ret;obtain⟨m,h1,h2,h3⟩:=HE.o;exact⟨v3,m,rfl,h1,h2,h3,HB3.o⟩
noncomputable def jk (l:List Nat):Nat:=l.length+(fZ l).length
def TW (a:Option Addr)(l:List Nat)(c:Nat)(h:jC w a (l.map λ(n:Nat)=>(n:Int)))(hl:l.length<=2000)(hr:l.Pairwise (·<·))(hm:∀n∈l,n<1062)(x y:Nat)(hxy:x<=y)(hy:y<=1062) :
  ac4 prog 29 #[vi 64,aco a l.length c,vi x,vi y] w λe w'=>∃m:List Nat,e=ab4 (adg #[vi ((jk m:Int)-jk l),vi 0])/\m.Pairwise (·<·)/\(∀n,n∈m↔n∈l\/(x<=n/\n<y))/\acN w.heap.size w w':=by
 have HF:=az (agB a l c h hm aa hr);have HWI:Hid (∀W,acN w.heap.size w W->ac4 prog 55 #[aco a l.length c,vi x,vi y] W λe w'=>∃(v':acK) (m:List Nat),e=ab4 v'/\dZ w' W.heap.size v' (m.map λ(n:Nat)=>(n:Int))/\m.Pairwise (·<·)/\(∀n,n∈m↔n∈l\/(x<=n/\n<y))/\acN W.heap.size W w'):=az (λW hb=>TV a l c (h.below hb) hl x y hxy aa);have HL:Hid (l.length<=2000/\y<=1062/\∀n∈l,n<1062):=az ⟨hl,hy,hm⟩;have HTL:Hid (l.length+(fZ l).length=jk l/\jk l<=6000):=az ⟨rfl,by have:=BJ l;unfold jk;omega⟩;rw[HTL.o.1]at HF;generalize jk l=tl at*
 obtain⟨n,hn⟩:∃n,n=l.length:=⟨_,rfl⟩;rw[<-hn]at HF HWI ⊢;clear hn h hl hr hm hxy hy;go_in;go_wp2_with fail;refine HF.o.mono ?_;rintro e w1 ⟨rfl,hb1⟩;have HB1:=az hb1;clear hb1 HF;go_wp2_with fail;refine(HWI.o _ HB1.o).mono ?_;rintro e w2 ⟨v2,m,rfl,ho2,hp2,hm2,hb2⟩;obtain⟨a2,c2,hv2,hr2,_⟩:=ho2.zy;rw[abT]at hv2;have HB2:=az (HB1.o.trans (hb2.mono HB1.o.size));have Df:m.length<=1062:=TU hp2 1062 (λn hn=>by
  rcases (hm2 n).1 hn with h|h
  exact HL.o.2.2 n h
  have:=HL.o.2.1;omega)
 have vK:=az (agB a2 m c2 hr2 (λn hn=>by
  rcases (hm2 n).1 hn with h|h
  exact HL.o.2.2 n h
  have:=HL.o.2.1;omega) aa hp2)
 have HM:=az (And.intro hp2 hm2);have Zu:Hid (m.length+(fZ m).length=jk m/\jk m<=6000):=az ⟨rfl,by have:=BJ m;unfold jk;omega⟩;rw[Zu.o.1]at vK;subst hv2;obtain⟨tm,Zv⟩:∃t,t=jk m:=⟨_,rfl⟩;rw[<-Zv]at vK Zu;have CX:=az Zv;have r1:adk.wrap ((tm:Int)-(tl:Int))=(tm:Int)-(tl:Int):=adl _ (by have h1:=Zu.o.2;have h2:=HTL.o.2;omega);clear ho2 hp2 hm2 hb2 hr2 Df HWI Zv;go_wp2_with fail;refine vK.o.mono ?_;rintro e w3 ⟨rfl,hb3⟩;have HB3:=az (HB2.o.trans (hb3.mono HB2.o.size));clear hb3 vK;go_wp2;go_ret2;exact⟨m,by rw[<-CX.o];rfl,HM.o.1,HM.o.2,HB3.o⟩
end po
namespace PI
def TY {l:List Nat}:ptrs l=[]↔∀k,k<32->two l k=0:=by
 constructor;intro h k hk;by_cases e:two l k=0;exact e;have:=(MU l hk e).1;rw[h]at this;simp at this;intro h;have:∀n,n<=32->ptrsTo l n=[]:=by
  intro n;induction n with
  |zero=>exact λ_=>rfl
  |succ n ih=>exact λhn=>by rw[Eg l (h n aa),ih aa]
 exact this 32 aj
end PI
namespace po
open pl
section
variable{p p':Po}
def Po.get_put (p:Po)(n:Int)(l:List Nat)(m:Int):(p.put n l).get m=if n=m then l else p.get m:=by
 unfold Po.get Po.put;dsimp only;rw[MP.get_put];by_cases e:n=m;rw[if_pos e,if_pos e];rfl;rw[if_neg e,if_neg e]
def Po.sV (p:Po)(n m:Int):(p.alloc n).get m=if n=m then zs else p.get m:=by
 unfold Po.get Po.alloc;dsimp only;rw[MP.get_put];by_cases e:n=m;rw[if_pos e,if_pos e];rfl;rw[if_neg e,if_neg e]
def Po.I5 (h:p.ok){n m:Int}(e:n≠m):(p.free n).get m=p.get m:=by
 unfold Po.get Po.free;dsimp only;rw[MP.dO h.V6,if_neg e]
def aa0 (k:Nat):PI.two zs k=0:=by
 have h:∀k,zs.getD k 0=0:=λk=>by
  rw[List.getD_eq_getElem?_getD,List.getElem?_replicate];split<;>rfl
 unfold PI.two;rw[h,h]
structure kS (p:Po)(aB k v pg:Nat)(p':Po)(F8:Nat):Prop where
 nz:pg≠0
 own:aB≠0->pg=aB
 new:aB=0->MP.has p.U pg=false/\p.T<pg
 get:∀x:Nat,x≠pg->p'.get x=p.get x
 ptr:∀l,l<32->p'.ptr F8 l=if l=k then v else p.ptr aB l
 o:F8=0\/F8=pg
 zero:F8=0↔∀l,l<32->(if l=k then v else p.ptr aB l)=0
 has:∀x:Nat,MP.has p'.U x=if x=pg then decide (F8≠0) else MP.has p.U x
 vC:p'.T=p.T/\p'.P=p.P/\p'.I=p.I/\(p'.B,p'.G)=(p.B,p.G)
 ok:p'.ok
 small:pg<8192
 row:F8≠0->(p'.get F8).length=64/\∀y∈p'.get F8,y<256
 aK:p.aK<=p'.aK+(if aB=0 then 1 else 0)
def I6 {α:Type}(m:Mp α)(k:Int)(v:α):(MP.put m k v).length<=m.length+1:=by
 induction m with
 |nil=>simp[MP.put]
 |cons x m ih =>
  unfold MP.put;split;simp;split;simp;simp;omega
def Po.TZ (h:p.ok)(aB:Nat)(h0:aB=0->0<p.aK)(h1:aB≠0->MP.has p.U aB=true/\(p.get aB).length=64/\∀y∈p.get aB,y<256) :
  ∃q pg bl,p.mine aB=(q,pg)/\pg≠0/\(aB≠0->pg=aB)/\(aB=0->MP.has p.U pg=false/\p.T<pg)/\q.get pg=bl/\bl.length=64/\(∀y∈bl,y<256)/\(∀l,PI.two bl l=p.ptr aB l)/\(∀x:Nat,x≠pg->q.get x=p.get x) /\
   (∀x:Nat,MP.has q.U x=if x=pg then true else MP.has p.U x)/\(q.T=p.T/\q.P=p.P/\q.I=p.I/\(q.B,q.G)=(p.B,p.G))/\q.ok/\p.aK<=q.aK+(if aB=0 then 1 else 0):=by
 by_cases e:aB=0;obtain⟨g1,g2,_⟩:=h.first (h0 e);have g3:=Po.dF.1 g1;have hd:=h.bI;obtain⟨f,hf⟩:∃f:Nat,p.first=f:=⟨p.first.toNat,aa⟩;refine⟨p.alloc p.first,p.first.toNat,zs,by unfold Po.mine;rw[if_pos e],?_,λh=>absurd e h,λ_=>?_,?_,IL.1,IL.2,λl=>?_,λx hx=>?_,λx=>?_,⟨rfl,rfl,rfl,rfl⟩,h.alloc g1,?_⟩;omega;rw[hf]at g2 ⊢;rw[acW];exact⟨g2,aa⟩;rw[hf,acW,Po.sV,if_pos rfl];unfold Po.ptr;rw[if_pos e,aa0];rw[hf,acW]at hx;rw[Po.sV,hf,if_neg aa];show MP.has (MP.put p.U p.first p.first) x=_
 rw[kE,hf,acW];by_cases e:x=f;rw[if_pos aa,if_pos e];rw[if_neg aa,if_neg e];rw[if_pos e];have:=I6 p.U p.first p.first;unfold Po.aK Po.alloc;dsimp only;omega;obtain⟨g1,g2,g3⟩:=h1 e;refine⟨p,aB,p.get aB,by unfold Po.mine;rw[if_neg e],e,λ_=>rfl,λh=>absurd h e,rfl,g2,g3,λl=>?_,λx _=>rfl,λx=>?_,⟨rfl,rfl,rfl,rfl⟩,h,by rw[if_neg e];omega⟩;unfold Po.ptr;rw[if_neg e];by_cases e:x=aB;rw[if_pos e,e,g1];rw[if_neg e]
def Po.xP (h:p.ok)(aB k v:Nat)(hk:k<32)(hv:v<8192)(h0:aB=0->0<p.aK)(h1:aB≠0->MP.has p.U aB=true/\(p.get aB).length=64/\∀y∈p.get aB,y<256) :
  ∃pg,kS p aB k v pg (p.point aB k v).1 (p.point aB k v).2:=by
 obtain⟨q,pg,bl,hm,nz,own,new,hbl,hln,hsm,h2,hget,hhas,pQ,hok,hrm⟩:=Po.TZ h aB h0 h1;have hb2:∀l,PI.two (PI.point bl k v) l=if l=k then v else p.ptr aB l:=λl=>by
  rw[PI.O1 hln hk,h2]
 have hpt:p.point aB k v=if PI.ptrs (PI.point bl k v)=[] then (q.free pg,0) else (q.put pg (PI.point bl k v),pg):=by
  unfold Po.point;rw[hm];dsimp only;rw[hbl]
 have hth:MP.has q.U pg=true:=by rw[hhas,if_pos rfl]
 have SI:pg<8192:=by
  have h3:=Po.dF.1 (hok.jf pg hth);have h4:=hok.bI;omega
 have hzz:(∀l,l<32->(if l=k then v else p.ptr aB l)=0)↔PI.ptrs (PI.point bl k v)=[]:=by
  rw[PI.TY];exact⟨λh l hl=>by rw[hb2];exact h l hl,λh l hl=>by rw[<-hb2];exact h l hl⟩
 by_cases e:PI.ptrs (PI.point bl k v)=[];rw[hpt,if_pos e];refine⟨pg,nz,own,new,λx hx=>?_,λl hl=>?_,ack rfl,⟨λ_=>hzz.2 e,λ_=>rfl⟩,λx=>?_,pQ,hok.free,SI,λh=>absurd rfl h,?_⟩;show (q.free pg).get x=_;rw[Po.I5 hok aa,hget x hx];show (q.free pg).ptr 0 l=_;unfold Po.ptr;rw[if_pos rfl];exact(hzz.2 e l hl).symm;show MP.has (MP.del q.U pg) x=_;rw[jN hok.MQ];by_cases e:x=pg;rw[if_pos aa,if_pos e];rfl;rw[if_neg aa,if_neg e,hhas,if_neg e];have h1:=(MP.EP q.U (pg:Int)).length_le;have h2:q.aK<=(q.free pg).aK:=by
  unfold Po.aK Po.free;dsimp only;omega
 show p.aK<=(q.free pg).aK+_;omega;rw[hpt,if_neg e];refine⟨pg,nz,own,new,λx hx=>?_,λl hl=>?_,acm rfl,⟨λh=>absurd h nz,λh=>absurd (hzz.1 h) e⟩,λx=>?_,pQ,?_,SI,λ_=>?_,hrm⟩;show (q.put pg _).get x=_;rw[Po.get_put,if_neg aa,hget x hx];show (q.put pg _).ptr pg l=_;unfold Po.ptr;rw[if_neg nz,Po.get_put,if_pos rfl];exact hb2 l;show MP.has q.U x=_;rw[hhas];by_cases e:x=pg;rw[if_pos e,if_pos e];simp[nz];rw[if_neg e,if_neg e];exact hok.put (Po.cz.2 (acm hth)) ⟨by rw[PI.xJ,hln],PI.rM hsm hv⟩;show ((q.put pg _).get pg).length=64/\_;rw[Po.get_put,if_pos rfl]
 exact⟨by rw[PI.xJ,hln],PI.rM hsm hv⟩
inductive Slot where
 |one
 |lQ
 |sec (k:Nat)
 |dat (n:Nat)
deriving DecidableEq
def Po.slot (p:Po)(i:PI.bF):Slot->Nat
 |.one=>i.single
 |.lQ=>i.double
 |.sec k=>if k<32 then p.ptr i.double k else 0
 |.dat n=>p.at_ i n
structure Sep (σ:Nat->Slot->Nat)(u:Nat->Bool):Prop where
 used:∀j s,σ j s≠0->u (σ j s)=true
 inj:∀j s j' s',σ j s≠0->σ j s=σ j' s'->j=j'/\s=s'
 all:∀x,u x=true->x≠0/\∃j s,σ j s=x
def upd (σ:Nat->Slot->Nat)(j:Nat)(s:Slot)(y:Nat):Nat->Slot->Nat:=λj' s'=>if j'=j/\s'=s then y else σ j' s'
def cK (σ:Nat->Slot->Nat)(j:Nat)(s:Slot)(y:Nat):upd σ j s y j s=y:=by unfold upd;rw[if_pos ⟨rfl,rfl⟩]
variable{j:Nat}{s:Slot}
def aG (σ:Nat->Slot->Nat){j':Nat}{s':Slot}(y:Nat)(h:¬(j'=j/\s'=s)):upd σ j s y j' s'=σ j' s':=by unfold upd;rw[if_neg h]
variable{σ:Nat->Slot->Nat}{u u':Nat->Bool}{y:Nat}
def Sep.new (S:Sep σ u)(h0:σ j s=0)(hy:y≠0)(hu:u y=false)(hu':∀x,u' x=if x=y then true else u x):Sep (upd σ j s y) u':=by
 have hne:∀j' s',σ j' s'≠y:=λj' s' e=>by
  have:=S.used j' s' (by rw[e];exact hy);rw[e,hu]at this;cases this
 refine⟨λj' s' h=>?_,λj1 s1 j2 s2 h e=>?_,λx hx=>?_⟩;by_cases c:j'=j/\s'=s;obtain⟨rfl,rfl⟩:=c;rw[cK,hu',if_pos rfl];rw[aG _ _ c]at h ⊢;rw[hu',if_neg (hne j' s')];exact S.used j' s' h;by_cases c1:j1=j/\s1=s;by_cases c2:j2=j/\s2=s;exact⟨c1.1.trans c2.1.symm,c1.2.trans c2.2.symm⟩;obtain⟨rfl,rfl⟩:=c1;rw[cK,aG _ _ c2]at e;exact absurd e.symm (hne j2 s2);rw[aG _ _ c1]at h e;by_cases c2:j2=j/\s2=s;obtain⟨rfl,rfl⟩:=c2;rw[cK]at e;exact absurd e (hne j1 s1);rw[aG _ _ c2]at e;exact S.inj j1 s1 j2 s2 h e;rw[hu']at hx;by_cases c:x=y;exact⟨by rw[c];exact hy,j,s,by rw[cK,c]⟩
 rw[if_neg c]at hx;obtain⟨h1,j',s',h2⟩:=S.all x hx;refine⟨h1,j',s',?_⟩;rw[aG];exact h2;rintro⟨rfl,rfl⟩;rw[h0]at h2;exact h1 h2.symm
def Sep.del (S:Sep σ u)(h0:σ j s=y)(_hy:y≠0)(hu':∀x,u' x=if x=y then false else u x):Sep (upd σ j s 0) u':=by
 refine⟨λj' s' h=>?_,λj1 s1 j2 s2 h e=>?_,λx hx=>?_⟩;by_cases c:j'=j/\s'=s;obtain⟨rfl,rfl⟩:=c;rw[cK]at h;exact absurd rfl h;rw[aG _ _ c]at h ⊢;rw[hu',if_neg];exact S.used j' s' h;intro e;rw[<-h0]at e;exact c (S.inj j' s' j s h e);by_cases c1:j1=j/\s1=s;obtain⟨rfl,rfl⟩:=c1;rw[cK]at h;exact absurd rfl h;rw[aG _ _ c1]at h e;by_cases c2:j2=j/\s2=s;obtain⟨rfl,rfl⟩:=c2;rw[cK]at e;exact absurd e h;rw[aG _ _ c2]at e;exact S.inj j1 s1 j2 s2 h e;rw[hu']at hx;by_cases c:x=y;rw[if_pos c]at hx;cases hx;rw[if_neg c]at hx;obtain⟨h1,j',s',h2⟩:=S.all x hx
 refine⟨h1,j',s',?_⟩;rw[aG];exact h2;rintro⟨rfl,rfl⟩;exact c (h2.symm.trans h0)
def Sep.same (S:Sep σ u)(h:∀x,u' x=u x):Sep σ u':=by
 rw[show u'=u from funext h];exact S
def Sep.point {aB k v pg F8:Nat}(S:Sep σ (λx=>MP.has p.U x))(h0:σ j s=aB)(E:kS p aB k v pg p' F8):Sep (upd σ j s F8) (λx=>MP.has p'.U x):=by
 by_cases h:aB=0;rcases E.o with e|e;rw[e];have hs:upd σ j s 0=σ:=by
  funext j' s';unfold upd;split;rename_i c;rw[c.1,c.2,h0,h];rfl
 rw[hs];refine S.same λx=>?_
 rw[E.has x];by_cases c:x=pg;rw[if_pos c,e,c,(E.new h).1];rfl;rw[if_neg c];refine S.new (by rw[h0,h]) (by rw[e];exact E.nz) (by rw[e];exact(E.new h).1) (λx=>?_);rw[E.has x,e];by_cases c:x=pg;rw[if_pos c,if_pos c];simp[E.nz];rw[if_neg c,if_neg c];have EZ:=E.own h;rcases E.o with e|e;rw[e];refine S.del h0 h (λx=>?_);rw[E.has x,EZ,e];by_cases c:x=aB;rw[if_pos c,if_pos c];rfl;rw[if_neg c,if_neg c];have hs:upd σ j s F8=σ:=by
  funext j' s';unfold upd;split;rename_i c;rw[c.1,c.2,h0,e,EZ];rfl
 rw[hs];refine S.same λx=>?_
 rw[E.has x];by_cases c:x=pg;rw[if_pos c,e,c];have:=S.used j s (by rw[h0];exact h);rw[h0]at this;rw[EZ,this];simp[h];rw[if_neg c]
end
section
variable{p p':Po}
def Po.fQ {aB:Nat}(h:aB≠0->p'.get aB=p.get aB)(k:Nat):p'.ptr aB k=p.ptr aB k:=by
 unfold Po.ptr;by_cases e:aB=0;rw[if_pos e,if_pos e];rw[if_neg e,if_neg e,h e]
def Ga {α β:Type}(x:α×β):∃a b,x=(a,b):=⟨x.1,x.2,rfl⟩
def Po.dJ (p:Po)(i:PI.bF)(k:Nat):p.slot i (.sec k)=if k<32 then p.ptr i.double k else 0:=rfl
def Po.mQ {i:PI.bF}(h1:i.single≠0->p'.get i.single=p.get i.single)(h2:i.double≠0->p'.get i.double=p.get i.double)
  (h3:∀k,k<32->p.ptr i.double k≠0->p'.get (p.ptr i.double k:Nat)=p.get (p.ptr i.double k:Nat)) (s:Slot):p'.slot i s=p.slot i s:=by
 cases s with
 |one=>rfl
 |lQ=>rfl
 |sec k=>rw[Po.dJ,Po.dJ,Po.fQ h2]
 |dat n =>
  unfold Po.slot Po.at_;dsimp only;by_cases c1:n<6;rw[if_pos c1,if_pos c1];rw[if_neg c1,if_neg c1];by_cases c2:n<38;rw[if_pos c2,if_pos c2,Po.fQ h1];rw[if_neg c2,if_neg c2];by_cases c3:n<1062;rw[if_pos c3,if_pos c3,Po.fQ h2];exact Po.fQ (h3 _ aa) _;rw[if_neg c3,if_neg c3]
variable{σ:Nat->Slot->Nat}{j:Nat}{s:Slot}{k F8:Nat}
def kS.apart {aB v pg:Nat}(E:kS p aB k v pg p' F8)(S:Sep σ (λx=>MP.has p.U x))(h0:σ j s=aB){j':Nat}{s':Slot}(hne:¬(j'=j/\s'=s))(hn:σ j' s'≠0):σ j' s'≠pg:=by
 intro e;by_cases h:aB=0;have:=S.used j' s' hn;rw[e,(E.new h).1]at this;cases this;rw[E.own h,<-h0]at e;exact hne (S.inj j' s' j s hn e)
def kS.high {aB v pg:Nat}(E:kS p aB k v pg p' F8)(S:Sep σ (λx=>MP.has p.U x))(h:p.ok)(h0:σ j s=aB):p.T<pg:=by
 by_cases h1:aB=0;exact(E.new h1).2;rw[E.own h1];have h2:=S.used j s (by rw[h0];exact h1);rw[h0]at h2;have:=Po.dF.1 (h.jf _ h2);omega
structure Full (σ:Slot->Nat):Prop where
 one:σ .one=0↔∀k,k<32->σ (.dat (6+k))=0
 sec:∀a,a<32->(σ (.sec a)=0↔∀b,b<32->σ (.dat (38+32*a+b))=0)
 lQ:σ .lQ=0↔∀a,a<32->σ (.sec a)=0
structure Gb (σ:Slot->Nat)(n:Nat):Prop where
 one:¬(6<=n/\n<38)->(σ .one=0↔∀k,k<32->σ (.dat (6+k))=0)
 sec:∀a,a<32->¬(38<=n/\(n-38)/32=a)->(σ (.sec a)=0↔∀b,b<32->σ (.dat (38+32*a+b))=0)
 lQ:n<38->(σ .lQ=0↔∀a,a<32->σ (.sec a)=0)
def Full.aF {σ σ':Slot->Nat}(h:Full σ)(n:Nat)(e:∀s,s≠ .dat n->σ' s=σ s):Gb σ' n:=by
 refine⟨λhn=>?_,λa ha hn=>?_,λ_=>?_⟩;rw[e _ ai,h.one];exact⟨λg k hk=>by rw[e _ (by simp;omega)];exact g k hk,λg k hk=>by rw[<-e _ (by simp;omega)];exact g k hk⟩;rw[e _ ai,h.sec a ha];exact⟨λg k hk=>by rw[e _ (by simp;omega)];exact g k hk,λg k hk=>by rw[<-e _ (by simp;omega)];exact g k hk⟩;rw[e _ ai,h.lQ];exact⟨λg a ha=>by rw[e _ ai];exact g a ha,λg a ha=>by rw[<-e _ ai];exact g a ha⟩
def wants (σ:Slot->Nat)(n:Nat):Nat :=
 if n<6 then 0 else if n<38 then (if σ .one=0 then 1 else 0) else (if σ .lQ=0 then 1 else 0)+(if σ (.sec ((n-38)/32))=0 then 1 else 0)
structure KT (p:Po)(is:Nat->PI.bF)(σ:Nat->Slot->Nat)(j n v:Nat)(p':Po)(i':PI.bF)(σ':Nat->Slot->Nat):Prop where
 may:p.BC (is j) n v
 sep:Sep σ' (λx=>MP.has p'.U x)
 slot:∀j' s,p'.slot (if j'=j then i' else is j') s=σ' j' s
 dat:∀j' m,σ' j' (.dat m)=σ j' (.dat m)
 uh:∀j' s,j'≠j->σ' j' s=σ j' s
 full:Gb (σ j) n->Full (σ' j)
 get:∀x:Nat,(x<=p.T\/∃j' m,σ j' (.dat m)=x/\x≠0)->p'.get x=p.get x
 row:∀x:Nat,MP.has p'.U x=true->(p'.get x).length=64/\∀y∈p'.get x,y<256
 vC:p'.T=p.T/\p'.P=p.P/\p'.I=p.I/\(p'.B,p'.G)=(p.B,p.G)
 ok:p'.ok
 ino:i'.aL=(is j).aL/\i'.links=(is j).links/\i'.size=(is j).size/\i'.direct.length=6
 aK:p.aK<=p'.aK+(wants (σ j) n:Nat)
def kS.rows {aB v pg:Nat}(E:kS p aB k v pg p' F8)(hlen:∀x:Nat,MP.has p.U x=true->(p.get x).length=64/\∀y∈p.get x,y<256) :
  ∀x:Nat,MP.has p'.U x=true->(p'.get x).length=64/\∀y∈p'.get x,y<256:=by
 intro x hx;by_cases e:x=pg;rw[E.has x,if_pos e]at hx;have hn:F8≠0:=by simpa using hx
 rcases E.o with h|h;exact absurd h hn;rw[e,<-h];exact E.row hn;rw[E.has x,if_neg e]at hx;rw[E.get x e];exact hlen x hx
def Et {l:List Nat}(h:l.length=6){n:Nat}(hn:n<6)(v m:Nat):(l.set n v).getD m 0=if m=n then v else l.getD m 0:=by grind
def Po.Ng (h:p.ok){is:Nat->PI.bF}{n v:Nat}(hn:n<1062)(hv:v<8192)(h6:(is j).direct.length=6)(S:Sep σ (λx=>MP.has p.U x))
  (hσ:∀j' s,¬(j'=j/\s=.dat n)->p.slot (is j') s=σ j' s) (hd:σ j (.dat n)=v) (hlen:∀x:Nat,MP.has p.U x=true->(p.get x).length=64/\∀y∈p.get x,y<256)
  (hroom:(wants (σ j) n:Int)<=p.aK):∃σ',KT p is σ j n v (p.set (is j) n v).1 (p.set (is j) n v).2 σ':=by
 have key:∀j' s',σ j' s'≠0->MP.has p.U (σ j' s')=true/\σ j' s'<8192:=λj' s' e=>by
  have h1:=S.used j' s' e;have h2:=Po.dF.1 (h.jf _ h1);have h3:=h.bI;exact⟨h1,aa⟩
 have hone:∀j',(is j').single=σ j' .one:=λj'=>hσ j' .one ai;have Dr:∀j',(is j').double=σ j' .lQ:=λj'=>hσ j' .lQ ai;have BL:∀j' a,a<32->p.ptr (is j').double a=σ j' (.sec a):=λj' a ha=>by
  have:=hσ j' (.sec a) ai;rwa[Po.dJ,if_pos ha]at this
 by_cases c1:n<6;have hs:p.set (is j) n v=(p,(is j).KC n v):=by unfold Po.set;rw[if_pos c1]
 rw[hs];refine⟨σ,⟨⟨λe=>aa,λe=>aa⟩,S,λj' s=>?_,λ_ _=>rfl,λ_ _ _=>rfl,λF=>⟨F.one aa,λa ha=>F.sec a ha aa,F.lQ aa⟩,λ_ _=>rfl,hlen,⟨rfl,rfl,rfl,rfl⟩,h,⟨rfl,rfl,rfl,by simpa using h6⟩,by show p.aK<=p.aK+_;omega⟩⟩;by_cases e:j'=j;rw[if_pos e,e];by_cases e2:s=.dat n;rw[e2,hd];show p.at_ ((is j).KC n v) n=v;unfold Po.at_;rw[if_pos c1];show ((is j).direct.set n v).getD n 0=v;rw[Et h6 c1,if_pos rfl];rw[<-hσ j s (λc=>e2 c.2)];cases s with
 |one=>rfl
 |lQ=>rfl
 |sec k=>rfl
 |dat m =>
  show p.at_ ((is j).KC n v) m=p.at_ (is j) m;unfold Po.at_;by_cases c:m<6;rw[if_pos c,if_pos c];show ((is j).direct.set n v).getD m 0=_;rw[Et h6 c1,if_neg (λe=>e2 (by rw[e]))];rw[if_neg c,if_neg c]
 rw[if_neg e];exact hσ j' s (λc=>e c.1);by_cases c2:n<38;have hw:wants (σ j) n=if σ j .one=0 then 1 else 0:=by unfold wants;rw[if_neg c1,if_pos c2]
 rw[hw]at hroom;have hr0:(is j).single=0->0<p.aK:=λe=>by
  rw[hone]at e;rw[if_pos e]at hroom;omega
 have hu0:(is j).single≠0->MP.has p.U (is j).single=true/\(is j).single<8192:=λe=>by
  rw[hone]at e ⊢;exact key j .one e
 obtain⟨pg,E⟩:=Po.xP h (is j).single (n-6) v aa hv hr0 (λe=>⟨(hu0 e).1,hlen _ (hu0 e).1⟩);have hs:p.set (is j) n v=((p.point (is j).single (n-6) v).1,{(is j) with single:=(p.point (is j).single (n-6) v).2}):=by unfold Po.set;rw[if_neg c1,if_pos c2]
 rw[hs];generalize (p.point (is j).single (n-6) v).1=p2 at*;generalize (p.point (is j).single (n-6) v).2=g2 at*;have h0:σ j .one=(is j).single:=(hone j).symm;have AP:=λ{j':Nat} {s':Slot}=>E.apart (j':=j') (s':=s') S h0;have hi:=E.high S h h0;have hgs:∀j' s',¬(j'=j/\s'=.one)->σ j' s'≠0->p2.get (σ j' s':Nat)=p.get (σ j' s':Nat):=λj' s' c e=>E.get _ (AP c e);have Ua:∀j',j'≠j->∀s,p2.slot (is j') s=p.slot (is j') s:=λj' e s=>by
  refine Po.mQ (λe1=>?_) (λe1=>?_) (λk hk e1=>?_) s;rw[hone]at e1 ⊢;exact hgs j' .one (λc=>e c.1) e1;rw[Dr]at e1 ⊢;exact hgs j' .lQ (λc=>e c.1) e1;rw[BL j' k hk]at e1 ⊢;exact hgs j' (.sec k) (λc=>e c.1) e1
 have hd2:(is j).double≠0->p2.get (is j).double=p.get (is j).double:=λe1=>by
  rw[Dr]at e1 ⊢;exact hgs j .lQ ai e1
 have hs2:∀k,k<32->p.ptr (is j).double k≠0->p2.get (p.ptr (is j).double k:Nat)=p.get (p.ptr (is j).double k:Nat):=λk hk e1=>by
  rw[BL j k hk]at e1 ⊢;exact hgs j (.sec k) ai e1
 have hdat:∀m,p2.at_ {(is j) with single:=g2} m=σ j (.dat m):=λm=>by
  have hsl:∀(hne:m≠n),p.at_ (is j) m=σ j (.dat m):=λhne=>hσ j (.dat m) (by simp[hne]);unfold Po.at_ at hsl ⊢;by_cases d1:m<6;rw[if_pos d1]at hsl ⊢;exact hsl aa;rw[if_neg d1]at hsl ⊢;by_cases d2:m<38;rw[if_pos d2]at hsl ⊢;show p2.ptr g2 (m-6)=_;rw[E.ptr _ aa];by_cases d3:m=n;rw[if_pos aa,d3,hd];rw[if_neg aa];exact hsl d3;rw[if_neg d2]at hsl ⊢;by_cases d3:m<1062;rw[if_pos d3]at hsl ⊢;show p2.ptr (p2.ptr (is j).double _) _=_;rw[Po.fQ hd2,Po.fQ (hs2 _ aa)];exact hsl aa;rw[if_neg d3]at hsl ⊢;exact hsl aa
 refine⟨upd σ j .one g2,⟨⟨λ_ _=>⟨hr0,λe=>⟨(hu0 e).2,(hu0 e).1⟩⟩,λe=>aa⟩,S.point h0 E,λj' s=>?_,λj' m=>aG _ _ ai,λj' s e=>aG _ _ (λc=>e c.1),λF=>⟨?_,λa ha=>?_,?_⟩,λx hx=>?_,E.rows hlen,E.vC,E.ok,⟨rfl,rfl,rfl,h6⟩,?_⟩⟩;by_cases e:j'=j;rw[if_pos e,e];cases s with
 |one=>rw[cK];rfl
 |lQ=>rw[aG _ _ ai,<-hσ j .lQ ai];rfl
 |sec k =>
  rw[aG _ _ ai,<-hσ j (.sec k) ai];rw[Po.dJ,Po.dJ];show (if k<32 then p2.ptr (is j).double k else 0)=_;rw[Po.fQ hd2]
 |dat m=>rw[aG _ _ ai];exact hdat m
 rw[if_neg e,aG _ _ (λc=>e c.1),Ua j' e];exact hσ j' s (λc=>e c.1);rw[cK,E.zero];have hq:∀k,k<32->(if k=n-6 then v else p.ptr (is j).single k)=σ j (.dat (6+k)):=λk hk=>by
  rw[<-E.ptr k hk,<-hdat (6+k)];unfold Po.at_;rw[if_neg aa,if_pos aa,show 6+k-6=k by omega]
 exact⟨λg k hk=>by rw[aG _ _ ai,<-hq k hk];exact g k hk,λg k hk=>by rw[hq k hk];have:=g k hk;rwa[aG _ _ ai]at this⟩;rw[aG _ _ ai,F.sec a ha aa];exact⟨λg k hk=>by rw[aG _ _ ai];exact g k hk,λg k hk=>by have:=g k hk;rwa[aG _ _ ai]at this⟩;rw[aG _ _ ai,F.lQ c2];exact⟨λg k hk=>by rw[aG _ _ ai];exact g k hk,λg k hk=>by have:=g k hk;rwa[aG _ _ ai]at this⟩;refine E.get x ?_;rcases hx with hx|⟨j',m,hx,hx0⟩;omega;rw[<-hx];exact AP ai (by rw[hx];exact hx0)
 have h2:=E.aK;rw[hw];rw[hone]at h2;split;rename_i e;rw[if_pos e]at h2;push_cast;exact h2;rename_i e;rw[if_neg e]at h2;push_cast;exact h2;obtain⟨a,ha⟩:∃a,a=(n-38)/32:=⟨_,rfl⟩;obtain⟨b,hb⟩:∃b,b=(n-38)%32:=⟨_,rfl⟩;have ha32:a<32:=aa;have aie:b<32:=aa;have aif:n=38+32*a+b:=aa;have hw:wants (σ j) n=(if σ j .lQ=0 then 1 else 0)+(if σ j (.sec a)=0 then 1 else 0):=by unfold wants;rw[if_neg c1,if_neg c2,<-ha]
 rw[hw]at hroom;have hr0:p.ptr (is j).double a=0->0<p.aK:=λe=>by
  rw[BL j a ha32]at e;rw[if_pos e]at hroom;push_cast at hroom;split at hroom<;>omega
 have hu0:p.ptr (is j).double a≠0->MP.has p.U (p.ptr (is j).double a:Nat)=true/\p.ptr (is j).double a<8192:=λe=>by
  rw[BL j a ha32]at e ⊢;exact key j _ e
 have hu1:(is j).double≠0->MP.has p.U (is j).double=true/\(is j).double<8192:=λe=>by
  rw[Dr]at e ⊢;exact key j _ e
 obtain⟨g1,E1⟩:=Po.xP h (p.ptr (is j).double a) b v aie hv hr0 (λe=>⟨(hu0 e).1,hlen _ (hu0 e).1⟩);have h01:σ j (.sec a)=p.ptr (is j).double a:=(BL j a ha32).symm;have S1:=S.point h01 E1;have hs:p.set (is j) n v=(((p.point (p.ptr (is j).double a) b v).1.point (is j).double a (p.point (p.ptr (is j).double a) b v).2).1,{(is j) with double:=((p.point (p.ptr (is j).double a) b v).1.point (is j).double a (p.point (p.ptr (is j).double a) b v).2).2}):=by
  unfold Po.set;rw[if_neg c1,if_neg c2,<-ha,<-hb]
 have Zw:∀(q:Po) (s1:Nat),p.point (p.ptr (is j).double a) b v=(q,s1)->q.may (is j).double->s1<8192->p.BC (is j) n v:=λq s1 e e1 e2=>by
  refine⟨λ_ e3=>absurd e3 c2,λ_=>?_⟩;rw[<-ha,<-hb,e];exact⟨⟨hr0,λe=>⟨(hu0 e).2,(hu0 e).1⟩⟩,e1,e2⟩
 rw[hs];clear hs;obtain⟨p1,s1,hp1⟩:∃q s1,p.point (p.ptr (is j).double a) b v=(q,s1):=Ga _;have ad3:=Zw p1 s1 hp1;clear Zw;rw[hp1]at E1 S1 ⊢;dsimp only at E1 S1 ⊢;have AP1:=λ{j':Nat} {s':Slot}=>E1.apart (j':=j') (s':=s') S h01;have hi1:=E1.high S h h01;have hs1:s1<8192:=by
  have:=E1.small;rcases E1.o with e|e<;>omega
 have hd1:(is j).double≠0->(is j).double≠g1:=λe1=>by
  rw[Dr]at e1 ⊢;exact AP1 ai e1
 have hr1:(is j).double=0->0<p1.aK:=λe=>by
  have h2:=E1.aK;have h3:p.ptr (is j).double a=0:=by unfold Po.ptr;rw[if_pos e]
  rw[if_pos h3]at h2;rw[<-h01]at h3;rw[Dr]at e;rw[if_pos e,if_pos h3]at hroom;push_cast at hroom;omega
 have hu2:(is j).double≠0->MP.has p1.U (is j).double=true:=λe=>by
  rw[E1.has,if_neg (hd1 e)];exact(hu1 e).1
 have hlen1:=E1.rows hlen;obtain⟨g2,E2⟩:=Po.xP E1.ok (is j).double a s1 ha32 hs1 hr1 (λe=>⟨hu2 e,hlen1 _ (hu2 e)⟩);have h02:upd σ j (.sec a) s1 j .lQ=(is j).double:=by rw[aG _ _ ai];exact(Dr j).symm
 have S2:=S1.point h02 E2;have AP2:=λ{j':Nat} {s':Slot}=>E2.apart (j':=j') (s':=s') S1 h02;have hi2:=E2.high S1 E1.ok h02;rw[E1.vC.1]at hi2;have aih:=ad3 ⟨hr1,λe=>⟨(hu1 e).2,hu2 e⟩⟩ hs1;generalize (p1.point (is j).double a s1).1=p2 at*;generalize (p1.point (is j).double a s1).2=d2 at*;have hgs:∀j' s',¬(j'=j/\s'=.sec a)->¬(j'=j/\s'=.lQ)->σ j' s'≠0->p2.get (σ j' s':Nat)=p.get (σ j' s':Nat):=λj' s' e1 e2 e3=>by
  have h2:=AP2 e2 (by rw[aG _ _ e1];exact e3);rw[aG _ _ e1]at h2;rw[E2.get _ h2,E1.get _ (AP1 e1 e3)]
 have Ua:∀j',j'≠j->∀s,p2.slot (is j') s=p.slot (is j') s:=λj' e s=>by
  refine Po.mQ (λe1=>?_) (λe1=>?_) (λk hk e1=>?_) s;rw[hone]at e1 ⊢;exact hgs j' .one (λc=>e c.1) (λc=>e c.1) e1;rw[Dr]at e1 ⊢;exact hgs j' .lQ (λc=>e c.1) (λc=>e c.1) e1;rw[BL j' k hk]at e1 ⊢;exact hgs j' (.sec k) (λc=>e c.1) (λc=>e c.1) e1
 have ad4:∀k,p1.ptr (is j).double k=p.ptr (is j).double k:=λk=>Po.fQ (λe=>E1.get _ (hd1 e)) k;have ad5:∀k,p2.ptr (is j).single k=p.ptr (is j).single k:=λk=>Po.fQ (λe1=>by
  rw[hone]at e1 ⊢
  exact hgs j .one ai ai e1) k
 have aii:∀l,l<32->p2.ptr s1 l=if l=b then v else p.ptr (p.ptr (is j).double a) l:=λl hl=>by
  rw[Po.fQ (p:=p1) (λe=>?_),E1.ptr l hl];refine E2.get _ ?_;have:=AP2 (j':=j) (s':=.sec a) ai (by rw[cK];exact e);rwa[cK]at this
 have ad6:∀k,k<32->p2.ptr d2 k=if k=a then s1 else p.ptr (is j).double k:=λk hk=>by rw[E2.ptr k hk,ad4]
 have hat:∀k l,k<32->l<32->p.at_ (is j) (38+32*k+l)=p.ptr (p.ptr (is j).double k) l:=λk l hk hl=>by
  unfold Po.at_;rw[if_neg aa,if_neg aa,if_pos aa,show (38+32*k+l-38)/32=k by omega,show (38+32*k+l-38)%32=l by omega]
 have hdat:∀m,p2.at_ {(is j) with double:=d2} m=σ j (.dat m):=λm=>by
  have hsl:∀(hne:m≠n),p.at_ (is j) m=σ j (.dat m):=λhne=>hσ j (.dat m) (by simp[hne]);by_cases d1:m<6;rw[<-hsl aa];unfold Po.at_;rw[if_pos d1,if_pos d1];by_cases d2':m<38;rw[<-hsl aa];unfold Po.at_;rw[if_neg d1,if_neg d1,if_pos d2',if_pos d2'];exact ad5 _;by_cases d3:m<1062;obtain⟨k,hk⟩:∃k,k=(m-38)/32:=⟨_,rfl⟩;obtain⟨l,hl⟩:∃l,l=(m-38)%32:=⟨_,rfl⟩;have hm:m=38+32*k+l:=aa;have Xr:k<32:=aa;have aa1:l<32:=aa;have e1:p2.at_ {(is j) with double:=d2} m=p2.ptr (p2.ptr d2 k) l:=by
   unfold Po.at_;rw[if_neg d1,if_neg d2',if_pos d3,<-hk,<-hl]
  rw[e1,ad6 k Xr];by_cases c:k=a;rw[if_pos c,aii l aa1];by_cases c':l=b;rw[if_pos c',show m=n by omega,hd];rw[if_neg c',<-hsl aa,hm,hat k l Xr aa1,c];rw[if_neg c,<-hsl aa,hm,hat k l Xr aa1];refine Po.fQ (λe=>?_) l;rw[BL j k Xr]at e ⊢;exact hgs j (.sec k) (by simp[c]) ai e;rw[<-hsl aa];unfold Po.at_;rw[if_neg d1,if_neg d2',if_neg d3,if_neg d1,if_neg d2',if_neg d3]
 refine⟨upd (upd σ j (.sec a) s1) j .lQ d2,⟨aih,S2,λj' s=>?_,λj' m=>by rw[aG _ _ ai,aG _ _ ai],λj' s e=>by rw[aG _ _ (λc=>e c.1),aG _ _ (λc=>e c.1)],λF=>⟨?_,λk hk=>?_,?_⟩,λx hx=>?_,E2.rows hlen1,?_,E2.ok,⟨rfl,rfl,rfl,h6⟩,?_⟩⟩;by_cases e:j'=j;rw[if_pos e,e];cases s with
 |one=>rw[aG _ _ ai,aG _ _ ai,<-hσ j .one ai];rfl
 |lQ=>rw[cK];rfl
 |sec k =>
  rw[aG _ _ ai];by_cases hk:k<32;have e1:p2.slot {(is j) with double:=d2} (.sec k)=p2.ptr d2 k:=by rw[Po.dJ,if_pos hk]
  rw[e1,ad6 k hk];by_cases c:k=a;rw[if_pos c,c,cK];rw[if_neg c,aG _ _ (by simp[c])];exact BL j k hk;rw[aG _ _ (by simp;omega),<-hσ j (.sec k) ai];rw[Po.dJ,Po.dJ,if_neg hk,if_neg hk]
 |dat m=>rw[aG _ _ ai,aG _ _ ai];exact hdat m
 rw[if_neg e,aG _ _ (λc=>e c.1),aG _ _ (λc=>e c.1),Ua j' e];exact hσ j' s (λc=>e c.1);rw[aG _ _ ai,aG _ _ ai,F.one aa];exact⟨λg k hk=>by rw[aG _ _ ai,aG _ _ ai];exact g k hk,λg k hk=>by have:=g k hk;rwa[aG _ _ ai,aG _ _ ai]at this⟩;rw[aG _ _ ai];by_cases c:k=a;rw[c,cK,E1.zero];have hq:∀l,l<32->(if l=b then v else p.ptr (p.ptr (is j).double a) l)=σ j (.dat (38+32*a+l)):=λl hl=>by
  by_cases c':l=b;rw[if_pos c',c',<-aif,hd];rw[if_neg c',<-hat a l ha32 hl];exact hσ j (.dat _) (by simp;omega)
 exact⟨λg l hl=>by rw[aG _ _ ai,aG _ _ ai,<-hq l hl];exact g l hl,λg l hl=>by rw[hq l hl];have:=g l hl;rwa[aG _ _ ai,aG _ _ ai]at this⟩;rw[aG _ _ (by simp[c]),F.sec k hk aa];exact⟨λg l hl=>by rw[aG _ _ ai,aG _ _ ai];exact g l hl,λg l hl=>by have:=g l hl;rwa[aG _ _ ai,aG _ _ ai]at this⟩;rw[cK,E2.zero];have hq:∀k,k<32->(if k=a then s1 else p1.ptr (is j).double k)=upd (upd σ j (.sec a) s1) j .lQ d2 j (.sec k):=λk hk=>by
  rw[aG _ _ ai];by_cases c:k=a;rw[if_pos c,c,cK];rw[if_neg c,aG _ _ (by simp[c]),ad4];exact BL j k hk
 exact⟨λg k hk=>by rw[<-hq k hk];exact g k hk,λg k hk=>by rw[hq k hk];exact g k hk⟩;rcases hx with hx|⟨j',m,hx,hx0⟩;rw[E2.get x aa,E1.get x aa];rw[<-hx];exact hgs j' (.dat m) ai ai (by rw[hx];exact hx0);obtain⟨a1,a2,a3,a4⟩:=E1.vC;obtain⟨b1,b2,b3,b4⟩:=E2.vC;exact⟨b1.trans a1,b2.trans a2,b3.trans a3,b4.trans a4⟩;have h1:=E1.aK;have h2:=E2.aK;rw[hw];rw[<-h01]at h1;rw[Dr]at h2;by_cases e1:σ j (.sec a)=0;by_cases e2:σ j .lQ=0;rw[if_pos e1]at h1 ⊢;rw[if_pos e2]at h2 ⊢;omega;rw[if_pos e1]at h1 ⊢;rw[if_neg e2]at h2 ⊢;omega;by_cases e2:σ j .lQ=0
 rw[if_neg e1]at h1 ⊢;rw[if_pos e2]at h2 ⊢;omega;rw[if_neg e1]at h1 ⊢;rw[if_neg e2]at h2 ⊢;omega
end
structure o6 (p:Po)(is:Nat->PI.bF):Prop where
 ok:p.ok
 sep:Sep (λj s=>p.slot (is j) s) (λx=>MP.has p.U x)
 full:∀j,Full (p.slot (is j))
 six:∀j,(is j).direct.length=6
 row:∀x:Nat,MP.has p.U x=true->(p.get x).length=64/\∀y∈p.get x,y<256
def bW (is:Nat->PI.bF)(j:Nat)(i:PI.bF):Nat->PI.bF:=λj'=>if j'=j then i else is j'
def aS (is:Nat->PI.bF)(j:Nat)(i:PI.bF):bW is j i j=i:=by unfold bW;rw[if_pos rfl]
variable{j:Nat}
def aV (is:Nat->PI.bF){j':Nat}(i:PI.bF)(h:j'≠j):bW is j i j'=is j':=by unfold bW;rw[if_neg h]
def oK (is:Nat->PI.bF)(j:Nat):bW is j (is j)=is:=by
 funext j';unfold bW;split;rename_i h;rw[h];rfl
section
variable{p p':Po}{is:Nat->PI.bF}
def o6.used (h:o6 p is){s:Slot}(e:p.slot (is j) s≠0):MP.has p.U (p.slot (is j) s:Nat)=true:=h.sep.used j s e
def o6.small (h:o6 p is)(j:Nat)(s:Slot):p.slot (is j) s<8192/\(p.slot (is j) s≠0->p.T<p.slot (is j) s):=by
 by_cases e:p.slot (is j) s=0;exact⟨aa,λh=>absurd e h⟩;have h1:=Po.dF.1 (h.ok.jf _ (h.used e));have h2:=h.ok.bI;exact⟨aa,λ_=>aa⟩
def o6.good (h:o6 p is)(j:Nat)(s:Slot):p.good (p.slot (is j) s):=⟨(h.small j s).1,λe=>Po.cz.2 (acm (h.used e))⟩
def BM {i:PI.bF}(h6:i.direct.length=6)(hg:∀s,p.good (p.slot i s)):p.wf i:=by
 have hs:∀k,k<32->p.slot i (.sec k)=p.ptr i.double k:=λk hk=>by rw[Po.dJ,if_pos hk]
 refine⟨h6,λn hn=>?_,hg .one,hg .lQ,λk hk=>?_,λk hk=>⟨?_,λl hl=>?_⟩⟩;have:=hg (.dat n);unfold Po.slot Po.at_ at this;dsimp only at this;rwa[if_pos hn]at this;have:=hg (.dat (6+k));unfold Po.slot Po.at_ at this;dsimp only at this;rwa[if_neg aa,if_pos aa,show 6+k-6=k by omega]at this;rw[<-hs k hk];exact hg _;have:=hg (.dat (38+32*k+l));unfold Po.slot Po.at_ at this;dsimp only at this;rwa[if_neg aa,if_neg aa,if_pos aa,show (38+32*k+l-38)/32=k by omega,show (38+32*k+l-38)%32=l by omega]at this
def o6.wf (h:o6 p is)(j:Nat):p.wf (is j):=BM (h.six j) (h.good j)
def Po.give (p:Po)(i:PI.bF)(n:Nat):Po×PI.bF:=if p.at_ i n=0 then (p.alloc p.first).set i n p.first.toNat else (p,i)
structure Nh (p:Po)(is:Nat->PI.bF)(j n:Nat)(p':Po)(i':PI.bF):Prop where
 fam:o6 p' (bW is j i')
 at_:p'.at_ i' n≠0
 was:∀m,m≠n->p'.at_ i' m=p.at_ (is j) m
 old:p.at_ (is j) n≠0->p'.at_ i' n=p.at_ (is j) n
 cont:∀j' m,p'.cont (bW is j i' j') m=p.cont (is j') m
 uh:∀j' m,j'≠j->p'.at_ (is j') m=p.at_ (is j') m
 tab:∀x:Nat,x<=p.T->p'.get x=p.get x
 vC:p'.T=p.T/\p'.P=p.P/\p'.I=p.I/\(p'.B,p'.G)=(p.B,p.G)
 ino:i'.aL=(is j).aL/\i'.links=(is j).links/\i'.size=(is j).size
 aK:p.aK<=p'.aK+(if p.at_ (is j) n=0 then 1+wants (p.slot (is j)) n else 0:Nat)
 val:p.at_ (is j) n=0->p'.at_ i' n=p.first.toNat/\p.first=(p.first.toNat:Int)
 may:p.at_ (is j) n=0->0<p.aK/\p.first.toNat<8192/\(p.alloc p.first).wf (is j)/\(p.alloc p.first).BC (is j) n p.first.toNat
def KT.fam {σ σ':Nat->Slot->Nat}{n v:Nat}{i':PI.bF}(E:KT p is σ j n v p' i' σ')(h6:∀j,(is j).direct.length=6)(hf:Gb (σ j) n)(ho:∀j',j'≠j->Full (σ j')):o6 p' (bW is j i'):=by
 have hsl:∀j' s,p'.slot (bW is j i' j') s=σ' j' s:=E.slot;have hfun:(λj1 s=>p'.slot (bW is j i' j1) s)=σ':=funext λj'=>funext λs=>hsl j' s
 refine⟨E.ok,by rw[hfun];exact E.sep,λj'=>?_,λj'=>?_,E.row⟩;rw[show p'.slot (bW is j i' j')=σ' j' from funext λs=>hsl j' s];by_cases e:j'=j;rw[e];exact E.full hf;rw[show σ' j'=σ j' from funext λs=>E.uh j' s e];exact ho j' e;by_cases e:j'=j;rw[e,aS];exact E.ino.2.2.2;rw[aV _ _ e];exact h6 j'
def yR {σ σ':Slot->Nat}{n:Nat}(h1:σ' .one=σ .one)(h2:σ' .lQ=σ .lQ)(h3:∀k,σ' (.sec k)=σ (.sec k)):wants σ' n=wants σ n:=by
 unfold wants;rw[h1,h2,h3]
def Po.I7 (h:p.ok)(hr:0<p.aK):∃f:Nat,p.first=f/\MP.has p.U f=false/\p.T<f/\f<8192/\(p.alloc p.first).ok/\(∀x:Nat,MP.has (p.alloc p.first).U x=if x=f then true else MP.has p.U x)/\p.aK<=(p.alloc p.first).aK+1:=by
 obtain⟨g1,g2,_⟩:=h.first hr;have g3:=Po.dF.1 g1;have hd:=h.bI;obtain⟨f,hf⟩:∃f:Nat,p.first=f:=⟨p.first.toNat,aa⟩;refine⟨f,hf,by rw[<-hf];exact g2,aa,aa,h.alloc g1,λx=>?_,?_⟩;show MP.has (MP.put p.U p.first p.first) x=_;rw[kE,hf];by_cases e:x=f;rw[if_pos aa,if_pos e];rw[if_neg aa,if_neg e];have:=I6 p.U p.first p.first;unfold Po.aK Po.alloc;dsimp only;omega
def Po.Ub (h:o6 p is)(j n:Nat)(hn:n<1062)(hr:p.at_ (is j) n=0->((1+wants (p.slot (is j)) n:Nat):Int)<=p.aK):Nh p is j n (p.give (is j) n).1 (p.give (is j) n).2:=by
 by_cases c:p.at_ (is j) n=0;have hg:p.give (is j) n=(p.alloc p.first).set (is j) n p.first.toNat:=by unfold Po.give;rw[if_pos c]
 rw[hg];have hrm:=hr c;obtain⟨f,hf,hf1,hf2,hf3,hok,hhas,hrm1⟩:=Po.I7 h.ok (by push_cast at hrm;omega);have hf0:f≠0:=by have:=h.ok.bI;omega
 have hget:∀x:Nat,x≠f->(p.alloc p.first).get x=p.get x:=λx hx=>by rw[Po.sV,hf,if_neg aa]
 have hgf:(p.alloc p.first).get f=zs:=by rw[Po.sV,hf,if_pos rfl]
 have hne:∀j' s,p.slot (is j') s≠0->p.slot (is j') s≠f:=λj' s e e2=>by
  have:=h.used e;rw[e2,hf1]at this;cases this
 rw[hf,acW];rw[hf]at hok hhas hrm1 hget hgf;have pQ:(p.alloc (f:Int)).T=p.T/\(p.alloc (f:Int)).P=p.P/\(p.alloc (f:Int)).I=p.I/\((p.alloc (f:Int)).B,(p.alloc (f:Int)).G)=(p.B,p.G):=⟨rfl,rfl,rfl,rfl⟩;generalize hp1:p.alloc (f:Int)=p1 at*;have hsl:∀j' s,p1.slot (is j') s=p.slot (is j') s:=λj' s=>by
  refine Po.mQ (λe=>hget _ (hne j' .one e)) (λe=>hget _ (hne j' .lQ e)) (λk hk e=>hget _ ?_) s;have:=hne j' (.sec k);rw[Po.dJ,if_pos hk]at this;exact this e
 have S:=h.sep.new (j:=j) (s:=.dat n) (y:=f) c hf0 hf1 hhas;have hw:wants (upd (λj s=>p.slot (is j) s) j (.dat n) f j) n=wants (p.slot (is j)) n:=yR (aG _ _ ai) (aG _ _ ai) (λk=>aG _ _ ai);obtain⟨σ',E⟩:=Po.Ng hok (is:=is) (j:=j) hn hf3 (h.six j) S (λj' s e=>by rw[aG _ _ e];exact hsl j' s) (cK _ _ _ _) (λx hx=>by
  by_cases e:x=f
  rw[e,hgf];exact IL
  rw[hhas,if_neg e]at hx
  rw[hget x e]
  exact h.row x hx) (by rw[hw];push_cast at hrm;omega)
 generalize (p1.set (is j) n f).1=p2 at*;generalize (p1.set (is j) n f).2=i2 at*;have hat:∀j' m,p2.at_ (bW is j i2 j') m=upd (λj s=>p.slot (is j) s) j (.dat n) f j' (.dat m):=λj' m=>(E.slot j' (.dat m)).trans (E.dat j' m);refine⟨E.fam h.six ((h.full j).aF n λs hs=>aG _ _ (λe=>hs e.2)) (λj' hj=>?_),?_,λm hm=>?_,λe=>absurd c e,λj' m=>?_,λj' m hj=>?_,λx hx=>?_,?_,⟨E.ino.1,E.ino.2.1,E.ino.2.2.1⟩,?_,λ_=>?_,λ_=>?_⟩;rw[show upd (λj s=>p.slot (is j) s) j (.dat n) f j'=p.slot (is j') from funext λs=>aG _ _ (λe=>hj e.1)];exact h.full j'
 have:=hat j n;rw[aS,cK]at this;rw[this];exact hf0;have:=hat j m;rw[aS,aG _ _ (by simp[hm])]at this;exact this;unfold Po.cont;rw[hat j' m];by_cases e:j'=j/\m=n;obtain⟨rfl,rfl⟩:=e;rw[cK,if_neg hf0,if_pos c,E.get f (acm ⟨j',m,cK _ _ _ _,hf0⟩),hgf];have e2:¬(j'=j/\Slot.dat m=Slot.dat n):=λh=>e ⟨h.1,by injection h.2⟩;rw[aG _ _ e2];show (if p.at_ (is j') m=0 then zs else p2.get (p.at_ (is j') m:Nat))=_;by_cases e3:p.at_ (is j') m=0;rw[if_pos e3,if_pos e3];have e4:p1.get (p.at_ (is j') m:Nat)=p.get (p.at_ (is j') m:Nat):=hget _ (hne j' (.dat m) e3)
 have e5:p2.get (p.at_ (is j') m:Nat)=p1.get (p.at_ (is j') m:Nat):=E.get _ (acm ⟨j',m,aG _ _ e2,e3⟩);rw[if_neg e3,if_neg e3,e5,e4];have:=hat j' m;rw[aV _ _ hj,aG _ _ (λe=>hj e.1)]at this;exact this;rw[E.get x (ack (by rw[pQ.1];exact hx)),hget x aa];exact⟨E.vC.1.trans pQ.1,E.vC.2.1.trans pQ.2.1,E.vC.2.2.1.trans pQ.2.2.1,E.vC.2.2.2.trans pQ.2.2.2⟩;have:=E.aK;rw[hw]at this;rw[if_pos c];push_cast;omega;have:=hat j n;rw[aS,cK]at this;rw[this,hf,acW];exact⟨rfl,rfl⟩;rw[hf,acW];have e1:p.alloc (f:Int)=p1:=hp1
 rw[e1];refine⟨by push_cast at hrm;omega,hf3,BM (h.six j) (λs=>?_),E.may⟩;rw[hsl j s];refine⟨(h.good j s).1,λe=>Po.cz.2 ?_⟩;rw[hhas,pQ.1];by_cases e2:p.slot (is j) s=f;rw[if_pos e2];exact acm rfl;rw[if_neg e2];exact Po.cz.1 ((h.good j s).2 e);have hg:p.give (is j) n=(p,is j):=by unfold Po.give;rw[if_neg c]
 rw[hg];refine⟨by rw[oK];exact h,c,λ_ _=>rfl,λ_=>rfl,λj' m=>by rw[oK],λ_ _ _=>rfl,λ_ _=>rfl,⟨rfl,rfl,rfl,rfl⟩,⟨rfl,rfl,rfl⟩,by show p.aK<=p.aK+_;omega,λe=>absurd e c,λe=>absurd e c⟩
structure aa2 (p:Po)(is:Nat->PI.bF)(j n:Nat)(l:List Nat)(p':Po):Prop where
 fam:o6 p' is
 at_:∀j' m,p'.at_ (is j') m=p.at_ (is j') m
 cont:p'.cont (is j) n=l
 uh:∀j' m,¬(j'=j/\m=n)->p'.cont (is j') m=p.cont (is j') m
 tab:∀x:Nat,x<=p.T->p'.get x=p.get x
 aK:p'.aK=p.aK
 vC:p'.T=p.T/\p'.P=p.P/\p'.I=p.I/\(p'.B,p'.G)=(p.B,p.G)
def Po.Ni (h:o6 p is)(j n:Nat)(hn:p.at_ (is j) n≠0){l:List Nat}(hl:l.length=64/\∀y∈l,y<256):aa2 p is j n l (p.put (p.at_ (is j) n:Nat) l):=by
 obtain⟨a,ha⟩:∃a,a=p.at_ (is j) n:=⟨_,rfl⟩;rw[<-ha]at hn ⊢;have hu:MP.has p.U a=true:=by rw[ha];exact h.used (j:=j) (s:=.dat n) (by show p.at_ (is j) n≠0;rw[<-ha];exact hn)
 have hget:∀x:Nat,x≠a->(p.put a l).get x=p.get x:=λx hx=>by rw[Po.get_put,if_neg aa]
 have hga:(p.put a l).get a=l:=by rw[Po.get_put,if_pos rfl]
 have hne:∀j' s,¬(j'=j/\s=.dat n)->p.slot (is j') s≠0->p.slot (is j') s≠a:=λj' s e e1 e2=>e (h.sep.inj j' s j (.dat n) e1 (e2.trans ha));have hsl:∀j' s,(p.put a l).slot (is j') s=p.slot (is j') s:=λj' s=>by
  refine Po.mQ (λe=>hget _ (hne j' .one ai e)) (λe=>hget _ (hne j' .lQ ai e)) (λk hk e=>hget _ ?_) s;have:=hne j' (.sec k) ai;rw[Po.dJ,if_pos hk]at this;exact this e
 have hat:∀j' m,(p.put a l).at_ (is j') m=p.at_ (is j') m:=λj' m=>hsl j' (.dat m);refine⟨⟨h.ok.put (Po.cz.2 (acm hu)) hl,?_,λj'=>?_,h.six,λx hx=>?_⟩,hat,?_,λj' m e=>?_,λx hx=>hget x ?_,rfl,rfl,rfl,rfl,rfl⟩;rw[show (λj s=>(p.put a l).slot (is j) s)=λj s=>p.slot (is j) s from funext λj'=>funext λs=>hsl j' s];exact h.sep;rw[show (p.put a l).slot (is j')=p.slot (is j') from funext λs=>hsl j' s];exact h.full j';by_cases e:x=a;rw[e,hga];exact hl;rw[hget x e];exact h.row x hx;unfold Po.cont;rw[hat,<-ha,if_neg hn,hga];unfold Po.cont;rw[hat];by_cases e3:p.at_ (is j') m=0
 rw[if_pos e3,if_pos e3];have e4:(p.put a l).get (p.at_ (is j') m:Nat)=p.get (p.at_ (is j') m:Nat):=hget _ (hne j' (.dat m) (λh=>e ⟨h.1,by injection h.2⟩) e3);rw[if_neg e3,if_neg e3,e4];have h1:=Po.dF.1 (h.ok.jf _ hu);omega
end
def dU (z:Nat->Bool)(a:Nat):Bool:=(ac9 32).any λb=>z (38+32*a+b)
def iU (z:Nat->Bool):Bool:=(ac9 32).any λk=>z (6+k)
def iC (z:Nat->Bool):Bool:=(ac9 32).any λa=>dU z a
def aH (z:Nat->Bool):Nat:=(ac9 1062).countP z+(iU z).toNat+(iC z).toNat+(ac9 32).countP (dU z)
def pR (z:Nat->Bool)(n:Nat):Nat:=if n<6 then 0 else if n<38 then (!iU z).toNat else (!iC z).toNat+(!dU z ((n-38)/32)).toNat
variable{f:Nat->Bool}{N:Nat}
def bR :(ac9 N).any f=true↔∃k,k<N/\f k=true:=by
 rw[List.any_eq_true];exact⟨λ⟨k,h1,h2⟩=>⟨k,aeg.1 h1,h2⟩,λ⟨k,h1,h2⟩=>⟨k,aeg.2 h1,h2⟩⟩
variable{g:Nat->Bool}
def BN (h:∀n,f n=true->g n=true)(N:Nat):(ac9 N).any f=true->(ac9 N).any g=true:=by
 rw[bR,bR];exact λ⟨k,h1,h2⟩=>⟨k,h1,h k h2⟩
def BO {a b:Bool}(h:a=true->b=true):a.toNat<=b.toNat:=by
 cases a<;>cases b<;>simp_all
variable{z z':Nat->Bool}
def Eu (h:∀n,z n=true->z' n=true)(a:Nat):dU z a=true->dU z' a=true:=BN (λ_=>h _) 32
def I8 (h:∀n,z n=true->z' n=true):aH z<=aH z':=by
 unfold aH;have h1:(ac9 1062).countP z<=(ac9 1062).countP z':=List.countP_mono_left λn _=>h n
 have h2:=BO (a:=iU z) (b:=iU z') (BN (λk=>h _) 32);have h3:=BO (a:=iC z) (b:=iC z') (BN (λa=>Eu h a) 32);have h4:(ac9 32).countP (dU z)<=(ac9 32).countP (dU z'):=List.countP_mono_left λn _=>Eu h n
 omega
variable{n:Nat}
def rR (hf:f n=false)(hg:∀m,g m=(f m||m==n)):∀N,(ac9 N).countP g=(ac9 N).countP f+if n<N then 1 else 0
 |0=>ai
 |N+1=>by
  rw[ae2,List.countP_append,List.countP_append,rR hf hg N,List.countP_singleton,List.countP_singleton,hg N]
  by_cases e:N=n
  subst e
  simp[hf]
  have:(N==n)=false:=by simp[e]
  rw[this,Bool.or_false]
  by_cases c:n<N
  have c2:n<N+1:=aa
  simp only[c,c2,if_true]
  omega
  have c2:¬n<N+1:=aa
  simp only[c,c2,if_false]
  omega
def any_congr (h:∀m,m<N->g m=f m):(ac9 N).any g=(ac9 N).any f:=by
 rw[Bool.eq_iff_iff,bR,bR];exact⟨λ⟨k,h1,h2⟩=>⟨k,h1,by rw[<-h k h1];exact h2⟩,λ⟨k,h1,h2⟩=>⟨k,h1,by rw[h k h1];exact h2⟩⟩
def bN (h:∀m,m<N->g m=f m):(ac9 N).countP g=(ac9 N).countP f :=
 List.countP_congr λm hm=>by rw[h m (aeg.1 hm)]
def yS (hn:n<1062)(h0:z n=false)(hz:∀m,z' m=(z m||m==n)):aH z'=aH z+1+pR z n:=by
 have h1:(ac9 1062).countP z'=(ac9 1062).countP z+1:=by rw[rR h0 hz 1062,if_pos hn]
 have hne:∀m,m≠n->z' m=z m:=λm e=>by rw[hz m];simp[e]
 unfold aH pR;rw[h1];by_cases c1:n<6;rw[if_pos c1];have a1:iU z'=iU z:=any_congr λk hk=>hne _ aa
 have a2:∀a,dU z' a=dU z a:=λa=>any_congr λb hb=>hne _ aa
 have a3:iC z'=iC z:=any_congr λa _=>a2 a
 have a4:(ac9 32).countP (dU z')=(ac9 32).countP (dU z):=bN λa _=>a2 a
 rw[a1,a3,a4];omega;rw[if_neg c1];by_cases c2:n<38;rw[if_pos c2];have a1:iU z'=true:=bR.2 ⟨n-6,aa,by rw[show 6+(n-6)=n by omega,hz n];simp⟩;have a2:∀a,dU z' a=dU z a:=λa=>any_congr λb hb=>hne _ aa
 have a3:iC z'=iC z:=any_congr λa _=>a2 a
 have a4:(ac9 32).countP (dU z')=(ac9 32).countP (dU z):=bN λa _=>a2 a
 rw[a1,a3,a4];cases iU z<;>simp<;>omega;rw[if_neg c2];obtain⟨a,ha⟩:∃a,a=(n-38)/32:=⟨_,rfl⟩;rw[<-ha];have a1:iU z'=iU z:=any_congr λk hk=>hne _ aa
 have b1:dU z' a=true:=bR.2 ⟨(n-38)%32,aa,by rw[show 38+32*a+(n-38)%32=n by omega,hz n];simp⟩;have b2:∀a',a'≠a->dU z' a'=dU z a':=λa' e=>any_congr λb hb=>hne _ aa
 have a3:iC z'=true:=bR.2 ⟨a,aa,b1⟩;have a4:(ac9 32).countP (dU z')=(ac9 32).countP (dU z)+(!dU z a).toNat:=by
  by_cases c:dU z a=true;rw[c];have:∀m,m<32->dU z' m=dU z m:=λm _=>by
   by_cases e:m=a;rw[e,b1,c];exact b2 m e
  rw[bN this];simp;have c':dU z a=false:=by simpa using c
  have:∀m,dU z' m=(dU z m||m==a):=λm=>by
   by_cases e:m=a;rw[e,b1];simp;rw[b2 m e];simp[e]
  rw[rR c' this 32,if_pos aa,c'];simp
 rw[a1,a3,a4];have:(iC z).toNat+(!iC z).toNat=1:=by cases iC z<;>rfl
 simp only[Bool.toNat_true];omega
def jO {a b c d:Int}(h:fJ a b=fJ c d):a=c/\b=d:=by
 unfold fJ at h;simp at h;exact h
def BP (ks:List acK)(k x:acK):x∈oJ ks k↔x∈ks\/x=k:=by
 unfold oJ;split;rename_i h;exact⟨ack,λe=>by rcases e with e|e;exact e;rw[e];exact h⟩;simp
def uU {ks:List acK}(h:ks.Nodup)(k:acK):(oJ ks k).Nodup:=by
 unfold oJ;split;exact h;rename_i hk;exact aeW.2 ⟨h,ai,λa ha c hc e=>by rw[adf]at hc;rw[e,hc]at ha;exact hk ha⟩
def Pm (l:List Nat):(fZ l).Nodup/\∀x,x∈fZ l↔(x=fJ 1 0/\∃n∈l,6<=n/\n<38)\/(x=fJ 2 (-1)/\∃n∈l,38<=n)\/∃n∈l,38<=n/\x=fJ 2 ((n-38)/32:Nat):=by
 have key:∀(l:List Nat) (ks:List acK),ks.Nodup->(l.foldl fK ks).Nodup/\∀x,x∈l.foldl fK ks↔x∈ks\/(x=fJ 1 0/\∃n∈l,6<=n/\n<38)\/(x=fJ 2 (-1)/\∃n∈l,38<=n)\/∃n∈l,38<=n/\x=fJ 2 ((n-38)/32:Nat):=by
  intro l;induction l with
  |nil=>intro ks h;exact⟨h,λx=>ai⟩
  |cons n l ih =>
   intro ks h;rw[List.foldl_cons];have hnd:(fK ks n).Nodup:=by
    unfold fK;split;exact h;split;exact uU h _;exact uU (uU h _) _
   obtain⟨h1,h2⟩:=ih _ hnd;refine⟨h1,λx=>?_⟩;rw[h2];have hk:x∈fK ks n↔x∈ks\/(x=fJ 1 0/\6<=n/\n<38)\/(x=fJ 2 (-1)/\38<=n)\/(38<=n/\x=fJ 2 ((n-38)/32:Nat)):=by
    unfold fK;by_cases c1:n<6
    ·rw[if_pos c1];exact⟨ack,λe=>by rcases e with e|⟨_,e,_⟩|⟨_,e⟩|⟨e,_⟩;exact e;all_goals omega⟩
    rw[if_neg c1];by_cases c2:n<38;rw[if_pos c2,BP];refine⟨λe=>e.elim ack (λe=>acm (ack ⟨e,aa,c2⟩)),λe=>?_⟩;rcases e with e|⟨e,_⟩|⟨_,e⟩|⟨e,_⟩;exact ack e;exact acm e;omega;omega;rw[if_neg c2,BP,BP];constructor;rintro ((e|e)|e);exact ack e;exact acm (acm (ack ⟨e,aa⟩));exact acm (acm (acm ⟨aa,e⟩));rintro (e|⟨_,_,e⟩|⟨e,_⟩|⟨_,e⟩);exact ack (ack e);omega;exact ack (acm e);exact acm e
   rw[hk];simp only[List.mem_cons,exists_eq_or_imp];constructor;rintro ((e|e|e|e)|e|e|e);exact ack e;exact acm (ack ⟨e.1,ack e.2⟩);exact acm (acm (ack ⟨e.1,ack e.2⟩));exact acm (acm (acm (ack e)));exact acm (ack ⟨e.1,acm e.2⟩);exact acm (acm (ack ⟨e.1,acm e.2⟩));exact acm (acm (acm (acm e)));rintro (e|⟨e,e2|e2⟩|⟨e,e2|e2⟩|e|e);exact ack (ack e);exact ack (acm (ack ⟨e,e2⟩));exact acm (ack ⟨e,e2⟩);exact ack (acm (acm (ack ⟨e,e2⟩)));exact acm (acm (ack ⟨e,e2⟩));exact ack (acm (acm (acm e)));exact acm (acm (acm e))
 obtain⟨h1,h2⟩:=key l [] List.nodup_nil;exact⟨h1,λx=>by unfold fZ;rw[h2];simp⟩
def Pn:List acK:=fJ 1 0::fJ 2 (-1)::(ac9 32).map λk=>fJ 2 (k:Nat)
def KU:Pn.Nodup:=by
 unfold Pn;refine List.nodup_cons.2 ⟨λh=>?_,List.nodup_cons.2 ⟨λh=>?_,?_⟩⟩;rcases List.mem_cons.1 h with h|h;have:=(jO h).1;omega;obtain⟨k,_,e⟩:=aay.1 h;have:=(jO e).1;omega;obtain⟨k,_,e⟩:=aay.1 h;have:=(jO e).2;omega;unfold List.Nodup;rw[afm];exact List.nodup_range.imp (λh e=>h (by have:=(jO e).2;omega))
open Classical in
def I9 {l:List Nat}(hr:l.Pairwise (·<·))(hl:∀n∈l,n<1062):jk l=aH (λn=>decide (n∈l)):=by
 have hnd:l.Nodup:=hr.imp (λh e=>aa);have h1:l.length=(ac9 1062).countP (λn=>decide (n∈l)):=by
  rw[List.countP_eq_length_filter];refine List.Perm.length_eq ((List.perm_ext_iff_of_nodup hnd (List.nodup_range.filter _)).2 λn=>?_);rw[List.mem_filter,aeg];exact⟨λh=>⟨hl n h,decide_eq_true h⟩,λh=>of_decide_eq_true h.2⟩
 obtain⟨k1,k2⟩:=Pm l;have e1:iU (λn=>decide (n∈l))=true↔fJ 1 0∈fZ l:=by
  unfold iU;rw[bR,k2];constructor;rintro⟨k,hk,e⟩;exact ack ⟨rfl,6+k,of_decide_eq_true e,aa,aa⟩;rintro (⟨_,n,hn,h6,zN⟩|⟨e,_⟩|⟨n,_,_,e⟩);exact⟨n-6,aa,by rw[show 6+(n-6)=n by omega];exact decide_eq_true hn⟩;have:=(jO e).1;omega;have:=(jO e).1;omega
 have e3:∀a,a<32->(dU (λn=>decide (n∈l)) a=true↔fJ 2 (a:Nat)∈fZ l):=λa ha=>by
  unfold dU;rw[bR,k2];constructor;rintro⟨b,hb,e⟩;exact acm (acm ⟨38+32*a+b,of_decide_eq_true e,aa,by rw[show (38+32*a+b-38)/32=a by omega]⟩);rintro (⟨e,_⟩|⟨e,_⟩|⟨n,hn,zN,e⟩);have:=(jO e).1;omega;have:=(jO e).2;omega;have:=(jO e).2;exact⟨(n-38)%32,aa,by rw[show 38+32*a+(n-38)%32=n by omega];exact decide_eq_true hn⟩
 have e2:iC (λn=>decide (n∈l))=true↔fJ 2 (-1)∈fZ l:=by
  unfold iC;rw[bR,k2];constructor;rintro⟨a,ha,e⟩;obtain⟨b,hb,e⟩:=bR.1 e;exact acm (ack ⟨rfl,_,of_decide_eq_true e,aa⟩);rintro (⟨e,_⟩|⟨_,n,hn,zN⟩|⟨n,_,_,e⟩);have:=(jO e).1;omega;have:=hl n hn;exact⟨(n-38)/32,aa,bR.2 ⟨(n-38)%32,aa,by rw[show 38+32*((n-38)/32)+(n-38)%32=n by omega];exact decide_eq_true hn⟩⟩;have:=(jO e).2;omega
 have h2:(fZ l).length=(Pn.filter λx=>decide (x∈fZ l)).length:=by
  refine List.Perm.length_eq ((List.perm_ext_iff_of_nodup k1 (KU.filter _)).2 λx=>?_);rw[List.mem_filter];refine⟨λh=>⟨?_,decide_eq_true h⟩,λh=>of_decide_eq_true h.2⟩;unfold Pn;rcases (k2 x).1 h with⟨e,_⟩|⟨e,_⟩|⟨n,hn,zN,e⟩;rw[e];simp;rw[e];simp;rw[e];have:=hl n hn;exact List.mem_cons_of_mem _ (List.mem_cons_of_mem _ (aay.2 ⟨(n-38)/32,aeg.2 aa,rfl⟩))
 have h3:(Pn.filter λx=>decide (x∈fZ l)).length=(iU (λn=>decide (n∈l))).toNat+(iC (λn=>decide (n∈l))).toNat+(ac9 32).countP (dU (λn=>decide (n∈l))):=by
  rw[<-List.countP_eq_length_filter];unfold Pn;rw[List.countP_cons,List.countP_cons,List.countP_map];have g1:(ac9 32).countP ((λx=>decide (x∈fZ l))∘λk=>fJ 2 (k:Nat))=(ac9 32).countP (dU (λn=>decide (n∈l))):=bN λa ha=>by
   rw[Bool.eq_iff_iff,e3 a ha];simp
  rw[g1];have g2:(if decide (fJ 1 0∈fZ l)=true then 1 else 0)=(iU (λn=>decide (n∈l))).toNat:=by
   by_cases c:fJ 1 0∈fZ l;rw[if_pos (decide_eq_true c),e1.2 c];rfl;rw[if_neg (λh=>c (of_decide_eq_true h)),show iU (λn=>decide (n∈l))=false from by simpa using λh=>c (e1.1 h)];rfl
  have g3:(if decide (fJ 2 (-1)∈fZ l)=true then 1 else 0)=(iC (λn=>decide (n∈l))).toNat:=by
   by_cases c:fJ 2 (-1)∈fZ l;rw[if_pos (decide_eq_true c),e2.2 c];rfl;rw[if_neg (λh=>c (of_decide_eq_true h)),show iC (λn=>decide (n∈l))=false from by simpa using λh=>c (e2.1 h)];rfl
  rw[g2,g3];omega
 unfold jk aH;rw[h2,h3,<-h1];omega
def Xt {σ:Slot->Nat}(h:Full σ)(hz:∀n,n<1062->(z n=true↔σ (.dat n)≠0))(hn:n<1062):wants σ n=pR z n:=by
 have e1:iU z=true↔σ .one≠0:=by
  unfold iU;rw[bR,ne_eq,h.one];constructor;rintro⟨k,hk,e⟩ g;exact(hz _ aa).1 e (g k hk);intro g;refine ad2 λc=>g λk hk=>ad2 λe=>c ⟨k,hk,(hz _ aa).2 e⟩
 have e3:∀a,a<32->(dU z a=true↔σ (.sec a)≠0):=λa ha=>by
  unfold dU;rw[bR,ne_eq,h.sec a ha];constructor;rintro⟨k,hk,e⟩ g;exact(hz _ aa).1 e (g k hk);intro g;refine ad2 λc=>g λk hk=>ad2 λe=>c ⟨k,hk,(hz _ aa).2 e⟩
 have e2:iC z=true↔σ .lQ≠0:=by
  unfold iC;rw[bR,ne_eq,h.lQ];constructor;rintro⟨k,hk,e⟩ g;exact(e3 k hk).1 e (g k hk);intro g;refine ad2 λc=>g λk hk=>ad2 λe=>c ⟨k,hk,(e3 k hk).2 e⟩
 have key:∀{b:Bool} {x:Nat},(b=true↔x≠0)->(if x=0 then 1 else 0)=(!b).toNat:=λ{b x} h=>by
  by_cases e:x=0;rw[if_pos e];have:b=false:=by simpa using λg=>h.1 g e
  rw[this];rfl;rw[if_neg e,h.2 e];rfl
 unfold wants pR;by_cases c1:n<6;rw[if_pos c1,if_pos c1];rw[if_neg c1,if_neg c1];by_cases c2:n<38;rw[if_pos c2,if_pos c2,key e1];rw[if_neg c2,if_neg c2,key e2,key (e3 _ aa)]
def Po.gG (p:Po)(i:PI.bF)(n:Nat):Bool:=decide (p.at_ i n≠0)
def Po.eO (p:Po)(i:PI.bF):List Nat:=(ac9 1062).filter (p.gG i)
def Po.rT (p:Po)(i:PI.bF):(p.eO i).Pairwise (·<·):=List.pairwise_lt_range.filter _
def Po.mR (p:Po)(i:PI.bF)(n:Nat):n∈p.eO i↔n<1062/\p.at_ i n≠0:=by
 unfold Po.eO Po.gG;rw[List.mem_filter,aeg];simp
def Po.BQ (p:Po)(i:PI.bF):(p.eO i).length<=1062:=abX (List.length_filter_le _ _) ai
def nums_append (a b:List It):nums (a++b)=nums a++nums b:=by unfold nums;rw[List.filter_append,aef]
def xQ {α:Type}(l:List α)(f:α->List It):nums (l.flatMap f)=l.flatMap λx=>nums (f x):=by
 induction l with
 |nil=>rfl
 |cons x l ih=>rw[aaQ,aaQ,nums_append,ih]
variable{β:Type}
def oL (l:List Nat)(f:Nat×Nat->List β):∀n,(PI.ptrsTo l n).flatMap f=(ac9 n).flatMap λk=>if PI.two l k=0 then [] else f (k,PI.two l k)
 |0=>rfl
 |n+1=>by
  rw[ae2,ae0,<-oL l f n]
  rw[show PI.ptrsTo l (n+1)=PI.ptrsTo l n++(if PI.two l n=0 then [] else [(n,PI.two l n)]) from rfl,ae0]
  rw[aaQ,afe,adS]
  by_cases e:PI.two l n=0
  rw[if_pos e,if_pos e,afe]
  rw[if_neg e,if_neg e,aaQ,afe,adS]
def flat_congr {f g:Nat->List β}(h:∀k,k<N->f k=g k):(ac9 N).flatMap f=(ac9 N).flatMap g:=by
 induction N with
 |zero=>rfl
 |succ N ih=>rw[ae2,ae0,ae0,ih (λk hk=>h k aa)];simp[h N aa]
def flat_nil :(ac9 N).flatMap (λ_=>([]:List β))=[]:=by
 induction N with
 |zero=>rfl
 |succ N ih=>rw[ae2,ae0,ih];rfl
def Uc (p:Po)(aB fr:Nat):nums (p.items 0 aB fr)=if aB=0 then [] else [(fr:Int)]:=by
 unfold Po.items;split;rfl;rfl
def Ud (p:Po)(aB fr:Nat):nums (p.items 1 aB fr)=(ac9 32).flatMap λk=>if p.ptr aB k=0 then [] else [((fr+k:Nat):Int)]:=by
 unfold Po.items;by_cases e:aB=0;rw[if_pos e];have:(λk=>if p.ptr aB k=0 then [] else [((fr+k:Nat):Int)])=λ_=>[]:=by
  funext k;unfold Po.ptr;rw[if_pos e,if_pos rfl]
 rw[this,flat_nil];rfl;rw[if_neg e];have h1:nums ((fr,aB,0+1)::(PI.ptrs (p.get aB)).flatMap λx=>p.items 0 x.2 (fr+x.1*stepOf (0+1)))=nums ((PI.ptrs (p.get aB)).flatMap λx=>p.items 0 x.2 (fr+x.1*stepOf (0+1))):=by
  unfold nums;rw[List.filter_cons_of_neg ai]
 rw[h1,xQ];show (PI.ptrsTo (p.get aB) 32).flatMap _=_;rw[oL];refine flat_congr λk _=>?_
 unfold Po.ptr;rw[if_neg e];by_cases c:PI.two (p.get aB) k=0;rw[if_pos c,if_pos c];rw[if_neg c,if_neg c,Uc];dsimp only;rw[if_neg c,show stepOf (0+1)=1 from rfl,Nat.mul_one]
def aa3 (p:Po)(aB fr:Nat):nums (p.items 2 aB fr)=(ac9 32).flatMap λa=>(ac9 32).flatMap λb=>if p.ptr (p.ptr aB a) b=0 then [] else [((fr+(32*a+b):Nat):Int)]:=by
 have h0:∀a,a=0->∀fr,((ac9 32).flatMap λb=>if p.ptr a b=0 then [] else [((fr+b:Nat):Int)])=([]:List Int):=λa ha fr=>by
  have:(λb=>if p.ptr a b=0 then [] else [((fr+b:Nat):Int)])=λ_=>[]:=by
   funext k;unfold Po.ptr;rw[if_pos ha,if_pos rfl]
  rw[this,flat_nil]
 unfold Po.items;by_cases e:aB=0;rw[if_pos e];have:(λa=>(ac9 32).flatMap λb=>if p.ptr (p.ptr aB a) b=0 then [] else [((fr+(32*a+b):Nat):Int)])=λ_=>[]:=by
  funext a;have hz:p.ptr aB a=0:=by unfold Po.ptr;rw[if_pos e]
  have:=h0 (p.ptr aB a) hz (fr+32*a);simpa[Nat.add_assoc] using this
 rw[this,flat_nil];rfl;rw[if_neg e];have h1:nums ((fr,aB,1+1)::(PI.ptrs (p.get aB)).flatMap λx=>p.items 1 x.2 (fr+x.1*stepOf (1+1)))=nums ((PI.ptrs (p.get aB)).flatMap λx=>p.items 1 x.2 (fr+x.1*stepOf (1+1))):=by
  unfold nums;rw[List.filter_cons_of_neg ai]
 rw[h1,xQ];show (PI.ptrsTo (p.get aB) 32).flatMap _=_;rw[oL];refine flat_congr λa _=>?_
 have hp:p.ptr aB a=PI.two (p.get aB) a:=by unfold Po.ptr;rw[if_neg e]
 rw[<-hp];by_cases c:p.ptr aB a=0;rw[if_pos c];have:=h0 (p.ptr aB a) c (fr+32*a);simpa[Nat.add_assoc] using this.symm;rw[if_neg c,Ud];dsimp only;rw[show stepOf (1+1)=32 from rfl];refine flat_congr λb _=>?_
 rw[show fr+a*32+b=fr+(32*a+b) by omega]
def range_split (a b:Nat)(f:Nat->List β):(ac9 (a+b)).flatMap f=(ac9 a).flatMap f++(ac9 b).flatMap λk=>f (a+k):=by
 induction b with
 |zero=>simp
 |succ b ih=>rw[<-Nat.add_assoc,ae2,ae0,ih,ae2,ae0,List.append_assoc];simp
def KV (m:Nat)(f:Nat->List β):(ac9 (32*m)).flatMap f=(ac9 m).flatMap λa=>(ac9 32).flatMap λb=>f (32*a+b):=by
 induction m with
 |zero=>rfl
 |succ m ih=>rw[Nat.mul_succ,range_split,ih,ae2 (n:=m),ae0,aaQ,afe,adS]
def filter_flat (f:Nat->Bool)(N:Nat):((ac9 N).filter f).map (λ(n:Nat)=>(n:Int))=(ac9 N).flatMap λn=>if f n=true then [(n:Int)] else []:=by
 induction N with
 |zero=>rfl
 |succ N ih =>
  rw[ae2,List.filter_append,aef,ae0,ih];congr 1;by_cases e:f N=true;simp[e];simp[e]
def Po.BR (p:Po)(i:PI.bF):nums (p.jy i)=(p.eO i).map λ(n:Nat)=>(n:Int):=by
 unfold Po.eO;rw[filter_flat,show 1062=6+(32+32*32) from rfl,range_split,range_split,KV];unfold Po.jy;rw[nums_append,nums_append,Ud,aa3];unfold Po.jY;rw[xQ,List.append_assoc];congr 1;refine flat_congr λk hk=>?_
 rw[Uc];unfold Po.gG Po.at_;rw[if_pos hk];by_cases e:i.direct.getD k 0=0;rw[if_pos e,if_neg (by simpa using e)];rw[if_neg e,if_pos (by simpa using e)];congr 1;refine flat_congr λk hk=>?_
 unfold Po.gG Po.at_;rw[if_neg (show ¬6+k<6 by omega),if_pos (show 6+k<38 by omega),show 6+k-6=k by omega];by_cases e:p.ptr i.single k=0;rw[if_pos e,if_neg (by simpa using e)];rw[if_neg e,if_pos (by simpa using e)];refine flat_congr λa ha=>flat_congr λb hb=>?_
 unfold Po.gG Po.at_;rw[if_neg (show ¬6+(32+(32*a+b))<6 by omega),if_neg (show ¬6+(32+(32*a+b))<38 by omega),if_pos (show 6+(32+(32*a+b))<1062 by omega),show (6+(32+(32*a+b))-38)/32=a by omega,show (6+(32+(32*a+b))-38)%32=b by omega];by_cases e:p.ptr (p.ptr i.double a) b=0;rw[if_pos e,if_neg (by simpa using e)];rw[if_neg e,if_pos (by simpa using e),show 6+(32+(32*a+b))=38+(32*a+b) by omega]
def Po.Nj (p:Po)(i:PI.bF):jk (p.eO i)=aH (p.gG i):=by
 rw[I9 (p.rT i) (λn hn=>((p.mR i n).1 hn).1)];have key:∀n,n<1062->decide (n∈p.eO i)=p.gG i n:=λn hn=>by
  rw[Bool.eq_iff_iff,decide_eq_true_iff,p.mR];unfold Po.gG;rw[decide_eq_true_iff];exact⟨λh=>h.2,λh=>⟨hn,h⟩⟩
 unfold aH;have h1:(ac9 1062).countP (λn=>decide (n∈p.eO i))=(ac9 1062).countP (p.gG i):=bN λn hn=>key n hn
 have h2:iU (λn=>decide (n∈p.eO i))=iU (p.gG i):=any_congr λk hk=>key _ aa;have h3:∀a,a<32->dU (λn=>decide (n∈p.eO i)) a=dU (p.gG i) a:=λa ha=>any_congr λb hb=>key _ aa;have h4:iC (λn=>decide (n∈p.eO i))=iC (p.gG i):=any_congr λa ha=>h3 a ha
 have h5:(ac9 32).countP (dU λn=>decide (n∈p.eO i))=(ac9 32).countP (dU (p.gG i)):=bN λa ha=>h3 a ha
 rw[h1,h2,h4,h5]
open ino
def agu (x:It):Slot:=if x.2.2=0 then .dat x.1 else if x.2.2=1 then (if x.1<38 then .one else .sec ((x.1-38)/32)) else .lQ
def Ahead (x y:It):Prop:=x.2.2=y.2.2->x.1<y.1
def agE (l:List Nat):∀n,(PI.ptrsTo l n).Pairwise λa b=>a.1<b.1
 |0=>air
 |n+1=>by
  unfold PI.ptrsTo
  refine aiw.2 ⟨agE l n,?_,λa ha b hb=>?_⟩
  split
  exact air
  exact ai5 _ _
  have h1:=(PI.Br l n ha).1
  split at hb
  cases hb
  obtain rfl:=adf.1 hb
  exact h1
section
variable{p:Po}{i:PI.bF}{x y:It}{aB fr:Nat}
def agH (h:x∈p.items 0 aB fr):x=(fr,aB,0)/\aB≠0:=by
 unfold Po.items at h;split at h;cases h;rename_i h0;exact⟨adf.1 h,h0⟩
def ahA (h:x∈p.items 1 aB fr):aB≠0/\(x=(fr,aB,1)\/∃k,k<32/\x=(fr+k,p.ptr aB k,0)/\p.ptr aB k≠0):=by
 unfold Po.items at h;split at h;cases h;rename_i h0;refine⟨h0,?_⟩;rcases List.mem_cons.1 h with h|h;exact ack h;obtain⟨a,ha,hx⟩:=aik.1 h;obtain⟨h1,h2,h3⟩:=PI.Br _ _ ha;obtain⟨rfl,h4⟩:=agH hx;have e:p.ptr aB a.1=a.2:=by unfold Po.ptr;rw[if_neg h0,h2]
 exact acm ⟨a.1,h1,by rw[e];simp[stepOf],by rw[e];exact h4⟩
def aic (h:x∈p.items 2 aB fr):aB≠0/\(x=(fr,aB,2)\/∃k,k<32/\x∈p.items 1 (p.ptr aB k) (fr+k*32)):=by
 unfold Po.items at h;split at h;cases h;rename_i h0;refine⟨h0,?_⟩;rcases List.mem_cons.1 h with h|h;exact ack h;obtain⟨a,ha,hx⟩:=aik.1 h;obtain⟨h1,h2,h3⟩:=PI.Br _ _ ha;have e:p.ptr aB a.1=a.2:=by unfold Po.ptr;rw[if_neg h0,h2]
 exact acm ⟨a.1,h1,by rw[e];exact hx⟩
def akV (p:Po)(aB fr:Nat):(p.items 0 aB fr).Pairwise Ahead:=by
 unfold Po.items;split;exact air;exact ai5 _ _
def akW (p:Po)(aB fr:Nat):(p.items 1 aB fr).Pairwise Ahead:=by
 unfold Po.items;split;exact air;refine List.pairwise_cons.2 ⟨λy hy e=>?_,aiu.2 ⟨λa _=>akV p _ _,(agE _ 32).imp ?_⟩⟩;obtain⟨a,_,hx⟩:=aik.1 hy;obtain⟨rfl,_⟩:=agH hx;cases e;intro a b hab x hx y hy _;obtain⟨rfl,_⟩:=agH hx;obtain⟨rfl,_⟩:=agH hy;show fr+a.1*1<fr+b.1*1;omega
def in_1 (h:x∈p.items 1 aB fr):fr<=x.1/\x.1<fr+32/\x.2.2<=1:=by
 obtain⟨_,rfl|⟨k,hk,rfl,_⟩⟩:=ahA h;exact⟨aj,aa,aj⟩;exact⟨Nat.le_add_right _ _,Nat.add_lt_add_left hk _,Nat.zero_le _⟩
def anS (p:Po)(aB fr:Nat):(p.items 2 aB fr).Pairwise Ahead:=by
 unfold Po.items;split;exact air;refine List.pairwise_cons.2 ⟨λy hy e=>?_,aiu.2 ⟨λa _=>akW p _ _,(agE _ 32).imp ?_⟩⟩;obtain⟨a,_,hx⟩:=aik.1 hy;have:=(in_1 hx).2.2;dsimp only at e;omega;intro a b hab x hx y hy _;have h1:=in_1 hx;have h2:=in_1 hy;simp only[stepOf,if_true]at h1 h2;omega
def agN (h:x∈p.jy i):(x.1<1062/\x.2.2=0/\x.2.1=p.at_ i x.1/\x.2.1≠0)\/(x=(6,i.single,1)/\i.single≠0)\/(∃a,a<32/\x=(38+32*a,p.ptr i.double a,1)/\p.ptr i.double a≠0)\/(x=(38,i.double,2)/\i.double≠0):=by
 unfold Po.jy at h;rcases aaS.1 h with h|h;rcases aaS.1 h with h|h;obtain⟨j,hj,hx⟩:=aik.1 h;obtain⟨rfl,h0⟩:=agH hx;have hj:=aeg.1 hj;exact ack ⟨by show j<1062;omega,rfl,by show _=p.at_ i j;unfold Po.at_;rw[if_pos hj],h0⟩;obtain⟨h0,rfl|⟨k,hk,rfl,h1⟩⟩:=ahA h;exact acm (ack ⟨rfl,h0⟩);refine ack ⟨by show 6+k<1062;omega,rfl,?_,h1⟩;show _=p.at_ i (6+k);unfold Po.at_;rw[if_neg aa,if_pos aa,show 6+k-6=k by omega];obtain⟨h0,rfl|⟨a,ha,hx⟩⟩:=aic h;exact acm (acm (acm ⟨rfl,h0⟩));obtain⟨h2,rfl|⟨k,hk,rfl,h1⟩⟩:=ahA hx;exact acm (acm (ack ⟨a,ha,by rw[Nat.mul_comm],h2⟩))
 refine ack ⟨by show 38+a*32+k<1062;omega,rfl,?_,h1⟩;show _=p.at_ i (38+a*32+k);unfold Po.at_;rw[if_neg aa,if_neg aa,if_pos aa,show (38+a*32+k-38)/32=a by omega,show (38+a*32+k-38)%32=k by omega]
def agC (h:x∈p.jy i):p.slot i (agu x)=x.2.1/\x.2.1≠0/\x.2.2<=2:=by
 rcases agN h with⟨_,h1,h2,h3⟩|⟨rfl,h3⟩|⟨a,ha,rfl,h3⟩|⟨rfl,h3⟩;refine⟨?_,h3,aa⟩;unfold agu;rw[if_pos h1,h2];rfl;exact⟨rfl,h3,by show 1<=2;omega⟩;refine⟨?_,h3,by show 1<=2;omega⟩;unfold agu;rw[if_neg (by show ¬(1=0);omega),if_pos rfl,if_neg (by show ¬(38+32*a<38);omega)];show p.slot i (.sec ((38+32*a-38)/32))=p.ptr i.double a;rw[show (38+32*a-38)/32=a by omega];show (if a<32 then p.ptr i.double a else 0)=_;rw[if_pos ha];exact⟨rfl,h3,aj⟩
def ahB (p:Po)(i:PI.bF):(p.jy i).Pairwise Ahead:=by
 unfold Po.jy;have hd:∀{x:It},x∈p.jY i.direct 6->x.1<6:=λh=>by
  obtain⟨j,hj,hx⟩:=aik.1 h;obtain⟨rfl,h0⟩:=agH hx;exact aeg.1 hj
 refine aiw.2 ⟨aiw.2 ⟨?_,akW p _ _,λx hx y hy _=>?_⟩,anS p _ _,λx hx y hy _=>?_⟩;unfold Po.jY;refine aiu.2 ⟨λa _=>akV p _ _,List.pairwise_lt_range.imp ?_⟩;intro a b hab x hx y hy _;obtain⟨rfl,_⟩:=agH hx;obtain⟨rfl,_⟩:=agH hy;exact hab;have h1:=hd hx;have h2:=(in_1 hy).1;omega;have h2:38<=y.1:=by
  obtain⟨_,rfl|⟨k,_,h⟩⟩:=aic hy;exact aj;have:=(in_1 h).1;omega
 rcases aaS.1 hx with h|h;have:=hd h;omega;have:=(in_1 h).2.1;omega
def ahb (hx:x∈p.jy i):(x.2.2=0/\agu x=.dat x.1)\/(x.2.2=1/\x.1=6/\agu x=.one)\/(∃a,x.2.2=1/\x.1=38+32*a/\agu x=.sec a)\/(x.2.2=2/\x.1=38/\agu x=.lQ):=by
 rcases agN hx with⟨_,h1,_,_⟩|⟨rfl,_⟩|⟨a,ha,rfl,_⟩|⟨rfl,_⟩;exact ack ⟨h1,by unfold agu;rw[if_pos h1]⟩;exact acm (ack ⟨rfl,rfl,rfl⟩);refine acm (acm (ack ⟨a,rfl,rfl,?_⟩));unfold agu;rw[if_neg (by show ¬(1=0);omega),if_pos rfl,if_neg (by show ¬(38+32*a<38);omega)];show Slot.sec ((38+32*a-38)/32)=_;rw[show (38+32*a-38)/32=a by omega];exact acm (acm (acm ⟨rfl,rfl,rfl⟩))
def slot_ne (hx:x∈p.jy i)(hy:y∈p.jy i)(h:Ahead x y):agu x≠agu y:=by
 intro e;rcases ahb hx with⟨h1,h2⟩|⟨h1,h3,h2⟩|⟨a,h1,h3,h2⟩|⟨h1,h3,h2⟩<;>rcases ahb hy with⟨g1,g2⟩|⟨g1,g3,g2⟩|⟨b,g1,g3,g2⟩|⟨g1,g3,g2⟩<;>rw[h2,g2]at e <;>
  first
   |(have h5:=h (h1.trans g1.symm);injection e with e;omega)
   |(have h5:=h (h1.trans g1.symm);omega)
   |cases e
end
def Po.own (p:Po)(i:PI.bF):List Nat:=(p.jy i).map λx=>x.2.1
section
variable{p:Po}{is:Nat->PI.bF}
def agQ {y:Nat}(h:y∈p.own (is j)):∃s,p.slot (is j) s=y/\y≠0:=by
 obtain⟨x,hx,rfl⟩:=aay.1 h;exact⟨_,(agC hx).1,(agC hx).2.1⟩
def o6.agF (h:o6 p is)(j:Nat):(p.own (is j)).Nodup:=by
 refine afm.2 ((List.Pairwise.and_mem.1 (ahB p (is j))).imp ?_);rintro x y ⟨hx,hy,ha⟩ e;have h1:=agC hx;have h2:=agC hy;exact slot_ne hx hy ha (h.sep.inj j _ j _ (by show p.slot _ _≠0;rw[h1.1];exact h1.2.1) (h1.1.trans (e.trans h2.1.symm))).2
def o6.agG (h:o6 p is){k y:Nat}(hjk:j≠k)(hy:y∈p.own (is j)):y ∉ p.own (is k):=λhz=>by
 obtain⟨s,h1,h0⟩:=agQ hy
 obtain⟨t,h2,_⟩:=agQ hz
 exact hjk (h.sep.inj j s k t (by show p.slot _ _≠0;rw[h1];exact h0) (h1.trans h2.symm)).1
def o6.ahj (h:o6 p is):(p.own (is 0)++p.own (is 1)++p.own (is 2)).Nodup:=by
 refine aeW.2 ⟨aeW.2 ⟨h.agF 0,h.agF 1,λa ha b hb e=>?_⟩,h.agF 2,λa ha b hb e=>?_⟩;rw[<-e]at hb;exact h.agG aa ha hb;rw[<-e]at hb;rcases aaS.1 ha with h1|h1;exact h.agG aa h1 hb;exact h.agG aa h1 hb
end
open RowKit mgr ft nd
attribute [local go_sem] Oper.semAt_some
def ja (fn:FuncId)(a:Act)(ps:Array Tmp)(assign body:Code)(D:Nat)(st:LoopState)(pe:Option Code):Loop:={state:=st,pending:=pe,fn,tmps:=a.tmps,params:=ps,assign,body,defers:=D}
def ic {P:Program}{g:Operand}{ps:Array Tmp}{assign body:Code}{Q:Exit->Act->acL->Prop}{a:Act}{w:acL}(h1:1<=n){gf:Nat}{lb:Array acK}(hg:a.eval g=.func (.func gf) #[] lb)
  (eg:∀args w,(callFunc gf args).run P w=.ok (.enter gf args) w) (R:acL->Prop)
  (hcall:∀fn,ac4 P gf (#[.func (.yield (w.heap.size+1)) #[] #[]]++lb) ((w.alloc (adL (some []))).alloc (.loop (ja fn a ps assign body w.heap.size .ready none))) λe W =>
   (∃v,e=ab4 v)/\W.heap[w.heap.size+1]?=some (.loop (ja fn a ps assign body w.heap.size .ready none))/\W.heap[w.heap.size]?=some (adL (some []))/\R W)
  (hdone:∀W o r,R W->W.heap[w.heap.size]?=some (adL (some []))->W.heap[w.heap.size+1]?=some (.loop r)->Q .normal {a with defers:={target:=.collected w.heap.size,args:=#[]}::a.defers} (W.putObj (w.heap.size+1) o)) :
  (Code.rangeFunc g ps assign body).wpIn Fence.wide n P Q a w:=by
 refine wpIn_rangeFunc ?_;intro fn hfn;refine⟨w.heap.size+1,[{target:=.collected w.heap.size,args:=#[]}],(w.alloc (adL (some []))).alloc (.loop (ja fn a ps assign body w.heap.size .ready none)),{target:=.fn (.func gf) lb,args:=#[.func (.yield (w.heap.size+1)) #[] #[]]},
  (w.alloc (adL (some []))).alloc (.loop (ja fn a ps assign body w.heap.size .ready none)),gf,#[.func (.yield (w.heap.size+1)) #[] #[]]++lb,(w.alloc (adL (some []))).alloc (.loop (ja fn a ps assign body w.heap.size .ready none)),?_,?_,?_,?_,λ_=>h1,?_⟩
 exact run_enterLoop_outer _ _ _ _ _
 ·simp only[resolve,hg];simp[go_sem]
 intro f' hf';trivial
 ·simp[invoke,go_sem,eg]
 refine(callsIn_wide.2 (hcall fn)).mono ?_;rintro e W ⟨⟨v,rfl⟩,h2,h3,h4⟩;exact⟨none,_,run_endLoop h2 (by unfold ja;simp),hdone W _ _ h4 h3 h2⟩
def rY {P:Program}{l m:Nat}{rl:Loop}{W:acL}(hl:W.heap[l]?=some (.loop rl))(hr:rl.state=.ready)(hp:rl.pending=none){args:Array acK}(hs:args.size=rl.params.size){R:acL->Prop}
  (hbody:rl.assign.wpIn (Fence.wide.inRound l) m P (Exit.then (λa₁ w₁=>w₁.heap[l]?=some (.loop rl)/\rl.body.wpIn (Fence.wide.inRound l) m P (λex _ W3=>ex=.normal/\W3.heap[l]?=some (.loop {rl with state:=.busy})/\R (W3.putObj l (.loop rl))) a₁ (w₁.putObj l (.loop {rl with state:=.busy}))) (λ_ _ _=>False)) {tmps:=(rl.params.zip args).foldl (λtmps (t,a)=>tmps.setIfInBounds t a) rl.tmps,defers:=[]} W) :
  YieldAt Fence.wide m P l args W λe W'=>e=ab4 (.bool true)/\R W':=by
 refine⟨rl.fn,_,rl.assign,rl.body,run_yield hl hs,roundIn_of_wpIn trivial (wpIn_mono hbody ?_)⟩;rintro e a1 w1 h;cases e with
 |normal =>
  obtain⟨h1,h2⟩:=h;refine⟨_,run_beginRound h1 hr,wpIn_mono h2 ?_⟩;rintro e2 a2 W3 ⟨rfl,h3,h4⟩;have h5:=run_endRound (P:=P) none h3;refine⟨_,_,h5,rfl,?_⟩;have:({({rl with state:=.busy}:Loop) with state:=if (none:Option Code).isNone then .ready else .done,pending:=none}:Loop)=rl:=by
   obtain⟨a,b,c,d,e,f,g,h⟩:=rl;cases hr;cases hp;rfl
  rw[this];exact h4
 |_=>exact h
end po
namespace us
open RowKit mgr ft
def UR (w:acL)(g n:Nat)(G:Nat->Nat):Prop:=∃cs,aD w g 118 cs/\∀t,t<n->cs[t]?=some (vw (G t))
def swp (G:Nat->Nat)(i j:Nat):Nat->Nat:=λt=>if t=j then G i else if t=i then G j else G t
inductive Sw (n:Nat)(G:Nat->Nat):(Nat->Nat)->Prop
 |refl:Sw n G G
 |step {G':Nat->Nat} {i j:Nat}:Sw n G G'->i<n->j<n->Sw n G (swp G' i j)
variable{n:Nat}{G:Nat->Nat}
def Sw.trans {G' G'':Nat->Nat}(h:Sw n G G')(k:Sw n G' G''):Sw n G G'':=by
 induction k with
 |refl=>exact h
 |step _ hi hj ih=>exact ih.step hi hj
structure US (w:acL)(g n:Nat)(G:Nat->Nat)(w':acL)(G':Nat->Nat):Prop where
 row:UR w' g n G'
 sw:Sw n G G'
 aJ:aP (λm=>m=g) w w'
 siz:∀cs cs',aD w g 118 cs->aD w' g 118 cs'->cs'.size=cs.size
variable{w:acL}{g:Nat}
def zV {t:TypeId}{cs cs':Array acK}(h:aD w g t cs)(h':aD w g t cs'):cs'=cs:=by
 unfold aD at h h';rw[h]at h';injection h' with h';injection h' with h';exact h'.symm
def UP (w:acL)(g n:Nat)(G:Nat->Nat)(e:Ending)(w':acL):Prop:=e=ab4 (adg #[])/\∃G',US w g n G w' G'
variable{w w' w'':acL}{g n:Nat}{G G' G'':Nat->Nat}
def UR.cell (h:UR w g n G){t:Nat}(ht:t<n):w.cell? ⟨g,t,none⟩=some (vw (G t)):=by
 obtain⟨cs,h1,h2⟩:=h;rw[h1.cell];exact h2 t ht
def UR.frozen (h:UR w g n G)(t:Nat):w.frozen? ⟨g,t,none⟩=false:=by
 obtain⟨cs,h1,h2⟩:=h;exact h1.frozen t
def UR.lt (h:UR w g n G):g<w.heap.size:=by
 obtain⟨cs,h1,h2⟩:=h;exact h1.lt
def UR.old (h:UR w g n G)(k:acN w.heap.size w w'):UR w' g n G:=by
 obtain⟨cs,h1,h2⟩:=h;exact⟨cs,h1.old k,h2⟩
def UR.swap (h:UR w g n G){i j:Nat}(hi:i<n)(hj:j<n):UR ((w.setCell ⟨g,i,none⟩ (vw (G j))).setCell ⟨g,j,none⟩ (vw (G i))) g n (swp G i j):=by
 obtain⟨cs,h1,h2⟩:=h;refine⟨_,(h1.bB i _).bB j _,λt ht=>?_⟩;have hs:∀t,t<n->t<cs.size:=λt ht=>by
  rcases Nat.lt_or_ge t cs.size with h|h;exact h;have:=h2 t ht;rw[Array.getElem?_eq_none h]at this;cases this
 unfold swp;rw[af3,af3];by_cases e:j=t;rw[if_pos e,if_pos e.symm,if_pos (by simp;exact hs j hj)];rw[if_neg e,if_neg (λh:t=j=>e h.symm)];by_cases e2:i=t;rw[if_pos e2,if_pos e2.symm,if_pos (hs i hi)];rw[if_neg e2,if_neg (λh:t=i=>e2 h.symm)];exact h2 t ht
def UR.Jz (h:UR w g n G)(i x:Nat){t:Nat}(ht:t<n):∃s:Nat,(w.setCell ⟨g,i,none⟩ (vw x)).cell? ⟨g,t,none⟩=some (vw s):=by
 obtain⟨cs,h1,h2⟩:=h;have hs:t<cs.size:=by
  rcases Nat.lt_or_ge t cs.size with h|h;exact h;have:=h2 t ht;rw[Array.getElem?_eq_none h]at this;cases this
 rw[(h1.bB i _).cell,af3];by_cases e:i=t;rw[if_pos e,if_pos (by rw[e];exact hs)];exact⟨x,rfl⟩;rw[if_neg e];exact⟨G t,h2 t ht⟩
def UR.kn (h:UR w g n G)(t:Nat)(ht:t<n):∃v,w.cell? ⟨g,t,none⟩=some (vw v)/\Hid (G t=v):=⟨_,h.cell ht,az rfl⟩
def UR.two (h:UR w g n G)(i j:Nat)(hi:i<n)(hj:j<n):∃u v s,w.cell? ⟨g,i,none⟩=some (vw u)/\Hid (G i=u)/\w.cell? ⟨g,j,none⟩=some (vw v)/\Hid (G j=v) /\
  (w.setCell ⟨g,i,none⟩ (vw v)).cell? ⟨g,j,none⟩=some (vw s)/\w.frozen? ⟨g,i,none⟩=false/\w.frozen? ⟨g,j,none⟩=false:=by
 obtain⟨s,hs⟩:=h.Jz i (G j) hj;exact⟨_,_,s,h.cell hi,az rfl,h.cell hj,az rfl,hs,h.frozen i,h.frozen j⟩
def US.refl (h:UR w g n G):US w g n G w G:=⟨h,.refl,aP.refl _ _,λcs cs' a b=>by rw[zV a b]⟩
def US.trans (h:US w g n G w' G')(k:US w' g n G' w'' G''):US w g n G w'' G'':=by
 obtain⟨cs1,h1,_⟩:=h.row;exact⟨k.row,h.sw.trans k.sw,h.aJ.trans k.aJ (λ_ _ e=>e),λcs cs' a b=>(k.siz _ _ h1 b).trans (h.siz _ _ a h1)⟩
def US.old (h:US w g n G w' G')(k:acN w'.heap.size w' w''):US w g n G w'' G':=by
 obtain⟨cs1,h1,_⟩:=h.row;exact⟨h.row.old k,h.sw,h.aJ.below k,λcs cs' a b=>by rw[zV (h1.old k) b];exact h.siz _ _ a h1⟩
def US.far {F:Nat->Prop}(h:US w g n G w' G')(hg:g<w.heap.size)(q:aP F w' w'')(hF:∀k,F k->w.heap.size<=k):US w g n G w'' G':=by
 obtain⟨cs1,h1,h2⟩:=h.row;have h3:=h1.aJ q (λe=>by have:=hF _ e;omega);exact⟨⟨cs1,h3,h2⟩,h.sw,⟨q.os.trans h.aJ.os,q.tape.trans h.aJ.tape,q.output.trans h.aJ.output,abX h.aJ.size q.size,λk hk hn=>(q.block k (Nat.lt_of_lt_of_le hk h.aJ.size) (λe=>by have:=hF _ e;omega)).trans (h.aJ.block k hk hn)⟩,
  λcs cs' a b=>by rw[zV h3 b];exact h.siz _ _ a h1⟩
def US.drewN (h:US w g n G w' G')(k:Nat):US w g n G (w'.drewN k) G':=h.old ⟨rfl,rfl,rfl,aj,λ_ _=>rfl⟩
def US.swap (h:US w g n G w' G'){i j:Nat}(hi:i<n)(hj:j<n):US w g n G ((w'.setCell ⟨g,i,none⟩ (vw (G' j))).setCell ⟨g,j,none⟩ (vw (G' i))) (swp G' i j) :=
 ⟨h.row.swap hi hj,h.sw.step hi hj,h.aJ.trans (lY _ _ _ _ _ _) (λ_ _ e=>e),λcs cs' a b=>by
  obtain⟨cs1,h1,_⟩:=h.row
  rw[zV ((h1.bB i (vw (G' j))).bB j (vw (G' i))) b]
  simp[h.siz _ _ a h1]⟩
def Qd (x:Nat)(w:acL):ac4 prog 214 #[vw x] w λe w'=>e=ab4 (.bool false)/\w'=w:=by
 go_in;go_wp2;go_ret;exact⟨ai,rfl⟩
def fw (x y:Nat)(w:acL):ac4 prog 190 #[vw x,vw y] w λe w'=>e=ab4 (.bool (decide (x<y)))/\w'=w:=by
 go_in;go_wp2_with (go_at_call 214;refine(Qd _ _).mono ?_;rintro e w' ⟨rfl,rfl⟩);go_ret;exact⟨ai,rfl⟩
def Yt (h:UR w g n G)(c a b:Nat)(hab:a<=b)(hb:b<=n)(hn:n<1000000) :
  ac4 prog 184 #[aco (some ⟨g,0,none⟩) n c,vi a,vi b] w (UP w g n G):=by
 have H:=az (US.refl h);clear h;go_in;go_wp2_with fail;go_loopg [6] (b+1-(a+1)) (λk v6 wr=>∃(i:Nat) (Gk:Nat->Nat),v6=vi i/\a<i/\i<=b+1/\b+1-i<=k/\Hid (US w g n G wr Gk))
 case atStart=>exact⟨a+1,G,by go_num,aa,aa,aa,H⟩
 case round =>
  obtain⟨i,Gk,rfl,hai,hib,hk,HK⟩:=hrel;by_cases hlt:i<b
  ·go_wp2_with fail;go_loopg [7] i (λk v7 wr=>∃(j:Nat) (Gj:Nat->Nat),v7=vi j/\a<=j/\j<=i/\j<=k/\Hid (US w g n G wr Gj))
   case atStart=>exact⟨i,Gk,rfl,aa,aj,aj,HK⟩
   case round =>
    obtain⟨j,Gj,rfl,haj,hji,hjk,HJ⟩:=hrel;by_cases hja:a<j
    ·have q1:adk.wrap ((j:Int)-1)=(j:Int)-1:=adl _ aa;have q2:(0:Int)<=(j:Int)-1:=aa;have q3:(j:Int)-1<(n:Int):=aa;have q4:((j:Int)-1).toNat=j-1:=aa;have q5:(j:Int)<(n:Int):=aa;have c1:wr.cell? ⟨g,j,none⟩=some (vw (Gj j)):=HJ.o.row.cell aa;have c2:wr.cell? ⟨g,j-1,none⟩=some (vw (Gj (j-1))):=HJ.o.row.cell aa;generalize hx:Gj j=x at*;generalize hy:Gj (j-1)=y at*;have HX:=az hx;have HY:=az hy;clear hx hy;go_wp2_with fail;go_quiet (first|(go_at_call 190;refine af1 (fw _ _ _)));by_cases hl:x<y
     ·go_wp2_with fail;have f1:=HJ.o.row.frozen j;have f2:=HJ.o.row.frozen (j-1);go_region;all_goals
       go_wp2_with fail;go_roundg (j-1)
       case measure=>omega
       case rel=>exact⟨j-1,swp Gj j (j-1),by first|rfl|(congr 1;omega),aa,aa,aj,az (by rw[<-HX.o,<-HY.o];exact(HJ.o.drewN _).swap aa aa)⟩
     go_wp2_with fail;go_roundg (b+1-(i+1))
     case measure=>omega
     case rel=>exact⟨i+1,Gj,by first|rfl|(congr 1;omega),aa,aa,aj,az (HJ.o.drewN _)⟩
    have hd:decide ((a:Int)<(j:Int))=false:=decide_eq_false aa;go_wp2_with fail;go_quiet (fail);go_wp2_with fail;go_roundg (b+1-(i+1))
    case measure=>omega
    case rel=>exact⟨i+1,Gj,by first|rfl|(congr 1;omega),aa,aa,aj,az (HJ.o.drewN _)⟩
  go_wp2_with fail;go_end0;exact⟨rfl,Gk,HK.o⟩
def Yu (h:UR w g n G)(c a b:Nat)(hab:a<b)(hb:b<=n)(hn:n<1000000) :
  ac4 prog 188 #[aco (some ⟨g,0,none⟩) n c,vi a,vi b] w (UP w g n G):=by
 have H:=az (US.refl h);clear h;go_in;obtain⟨jb,hjb⟩:∃jb:Nat,(b:Int)-1=jb:=⟨b-1,aa⟩;go_upto_region 2 with fail;go_loopg [6,7] (jb+1-a) (λk v6 v7 wr=>∃(i j:Nat) (Gk:Nat->Nat),v6=vi i/\v7=vi j/\(a<=i/\i<=j+1/\j<b)/\j+1-i<=k/\Hid (US w g n G wr Gk))
 case atStart=>exact⟨a,jb,G,rfl,rfl,aa,aj,H⟩
 case round =>
  obtain⟨i,j,Gk,rfl,rfl,hbd,hk,HK⟩:=hrel;by_cases hij:i<j
  ·go_wp2_with fail;go_upto_region 3 with fail;go_cut [27] from 11 to 31 (λ_ wx=>Hid (US w g n G wx (swp Gk i j)))
   case first =>
    have qi:(i:Int)<(n:Int):=aa;have qj:(j:Int)<(n:Int):=aa;obtain⟨Qe,Qf,sv,ci,lH,cj,lI,hs,f1,f2⟩:=HK.o.row.two (i) (j) aa aa;go_region;all_goals
     go_wp2;go_meet;exact az (by rw[<-lH.o,<-lI.o];exact(HK.o.drewN _).swap aa aa)
   case rest =>
   have HL:=hcut;clear hcut;generalize wc=HLw at*;obtain⟨HLg,HLe⟩:∃zz,swp Gk i j=zz:=⟨_,rfl⟩;rw[HLe]at HL;clear HLe;go_wp2_with fail;go_roundg (j-1+1-(i+1))
   case measure=>omega
   case rel=>exact⟨i+1,j-1,HLg,by go_num,by first|rfl|(congr 1;omega),aa,aj,HL⟩
  go_wp2_with fail;go_end0;exact⟨rfl,Gk,HK.o⟩
def Vm (h:UR w g n G)(c a b pv:Nat)(hab:a<b)(hp:a<=pv/\pv<b)(hb:b<=n)(hn:n<1000000) :
  ac4 prog 192 #[aco (some ⟨g,0,none⟩) n c,vi a,vi b,vi pv] w λe w'=>∃(m:Nat) (t:Bool),e=ab4 (adg #[vi m,.bool t])/\a<=m/\m<b/\∃G',US w g n G w' G':=by
 have H:=az (US.refl h);clear h;go_in;obtain⟨j,hj⟩:∃j:Nat,(b:Int)-1=j:=⟨b-1,aa⟩;go_upto_region 1 with fail;go_cut [25] from 12 to 25 (λ_ wx=>Hid (US w g n G wx (swp G a pv)))
 case first =>
  have qa:(a:Int)<(n:Int):=aa;have qpv:(pv:Int)<(n:Int):=aa;obtain⟨Qe,Qf,sv,ci,lH,cj,lI,hs,f1,f2⟩:=H.o.row.two (a) (pv) aa aa;go_region;all_goals
   go_wp2;go_meet;exact az (by rw[<-lH.o,<-lI.o];exact(H.o.drewN _).swap aa aa)
 case rest =>
 have H1:=hcut;clear hcut;generalize wc=H1w at*;obtain⟨Ws,H1e⟩:∃zz,swp G a pv=zz:=⟨_,rfl⟩;rw[H1e]at H1;clear H1e;go_upto_block 0 with fail;go_upto_block 0 with fail;go_cut [10] from 30 to 45 (λv wx=>∃i:Nat,v=vi i/\(a+1<=i/\i<=j+1)/\Hid (US w g n G wx Ws))
 case first =>
  go_wp2_with fail;go_loopg [10] (j+1-(a+1)) (λk v wr=>∃i:Nat,v=vi i/\(a+1<=i/\i<=j+1)/\(j+1-i)<=k/\Hid (US w g n G wr Ws))
  case atStart=>exact⟨a+1,by first|rfl|go_num|(congr 1;omega),aa,aj,H1⟩
  case round =>
   obtain⟨i,rfl,hb,hk,HI⟩:=hrel;by_cases hij:i<=j
   ·have hd:(i:Int)<=(j:Int):=aa;have qi:(i:Int)<(n:Int):=aa;have qa:(a:Int)<(n:Int):=aa;obtain⟨Gu,ca,JA⟩:=HI.o.row.kn (i) aa;obtain⟨cbv,cb,JB⟩:=HI.o.row.kn (a) aa;go_wp2_with fail;go_quiet (first|(go_at_call 190;refine af1 (fw _ _ _)));generalize (decide (Gu<cbv))=tt;cases tt
    ·go_wp2;go_meet;exact⟨i,rfl,aa,az (HI.o.drewN _)⟩
    go_wp2_with fail;go_roundg ((j+1-(i+1)))
    case measure=>omega
    case rel=>exact⟨(i+1),by first|rfl|go_num|(congr 1;omega),aa,aj,az (HI.o.drewN _)⟩
   have hd:decide ((i:Int)<=(j:Int))=false:=decide_eq_false aa;go_wp2_with fail;go_quiet (fail);go_wp2;go_meet;exact⟨i,rfl,aa,az (HI.o.drewN _)⟩
 case rest =>
 obtain⟨i,rfl,H2b,H2⟩:=hcut;generalize wc=H2w at*;go_upto_block 2 with fail;go_cut [11] from 46 to 62 (λv wx=>∃j:Nat,v=vi j/\(i<=j+1/\j<b/\a<=j)/\Hid (US w g n G wx Ws))
 case first =>
  go_wp2_with fail;go_loopg [11] (j+1-i) (λk v wr=>∃j:Nat,v=vi j/\(i<=j+1/\j<b/\a<=j)/\(j+1-i)<=k/\Hid (US w g n G wr Ws))
  case atStart=>exact⟨j,by first|rfl|go_num|(congr 1;omega),aa,aj,H2⟩
  case round =>
   obtain⟨j,rfl,hb,hk,HI⟩:=hrel;by_cases hij:i<=j
   ·have hd:(i:Int)<=(j:Int):=aa;have qj:(j:Int)<(n:Int):=aa;have qa:(a:Int)<(n:Int):=aa;obtain⟨Gu,ca,JA⟩:=HI.o.row.kn (j) aa;obtain⟨cbv,cb,JB⟩:=HI.o.row.kn (a) aa;go_wp2_with fail;go_quiet (first|(go_at_call 190;refine af1 (fw _ _ _)));generalize (!decide (Gu<cbv))=tt;cases tt
    ·go_wp2;go_meet;exact⟨j,rfl,aa,az (HI.o.drewN _)⟩
    go_wp2_with fail;go_roundg (((j-1)+1-i))
    case measure=>omega
    case rel=>exact⟨(j-1),by first|rfl|go_num|(congr 1;omega),aa,aj,az (HI.o.drewN _)⟩
   have hd:decide ((i:Int)<=(j:Int))=false:=decide_eq_false aa;go_wp2_with fail;go_quiet (fail);go_wp2;go_meet;exact⟨j,rfl,aa,az (HI.o.drewN _)⟩
 case rest =>
 obtain⟨j,rfl,H3b,H3⟩:=hcut;generalize wc=H3w at*;by_cases hij:j<i
 ·go_wp2_with fail;go_upto_region 8 with fail;go_cut [79] from 66 to 79 (λ_ wx=>Hid (US w g n G wx (swp Ws j a)))
  case first =>
   have qj:(j:Int)<(n:Int):=aa;have qa:(a:Int)<(n:Int):=aa;obtain⟨Qe,Qf,sv,ci,lH,cj,lI,hs,f1,f2⟩:=H3.o.row.two (j) (a) aa aa;go_region;all_goals
    go_wp2;go_meet;exact az (by rw[<-lH.o,<-lI.o];exact(H3.o.drewN _).swap aa aa)
  case rest =>
  have H4:=hcut;clear hcut;generalize wc=H4w at*;obtain⟨H4g,H4e⟩:∃zz,swp Ws j a=zz:=⟨_,rfl⟩;rw[H4e]at H4;clear H4e;go_wp2;go_ret2;exact⟨j,true,rfl,aa,aa,H4g,H4.o⟩
 go_wp2_with fail;go_upto_region 10 with fail;go_cut [94] from 81 to 94 (λ_ wx=>Hid (US w g n G wx (swp Ws i j)))
 case first =>
  have qi:(i:Int)<(n:Int):=aa;have qj:(j:Int)<(n:Int):=aa;obtain⟨Qe,Qf,sv,ci,lH,cj,lI,hs,f1,f2⟩:=H3.o.row.two (i) (j) aa aa;go_region;all_goals
   go_wp2;go_meet;exact az (by rw[<-lH.o,<-lI.o];exact(H3.o.drewN _).swap aa aa)
 case rest =>
 have H4:=hcut;clear hcut;generalize wc=H4w at*;obtain⟨H4g,H4e⟩:∃zz,swp Ws i j=zz:=⟨_,rfl⟩;rw[H4e]at H4;clear H4e;go_upto_block 4 with fail;obtain⟨i1,hi1⟩:∃i1:Nat,(i:Int)+1=i1:=⟨i+1,aa⟩;obtain⟨j1,hj1⟩:∃j1:Nat,(j:Int)-1=j1:=⟨j-1,aa⟩;go_cut [10,11] from 99 to 152 (λv10 v11 wx=>∃(i j:Nat) (Gk:Nat->Nat),v10=vi i/\v11=vi j/\(a<=j/\j<b)/\Hid (US w g n G wx Gk))
 case first =>
  go_wp2_with fail;go_loopg [10,11] (j1+2-i1) (λk v10 v11 wr=>∃(i j:Nat) (Gk:Nat->Nat),v10=vi i/\v11=vi j/\(a+1<=i/\i<=j+2/\a<=j/\j<b)/\j+2-i<=k/\Hid (US w g n G wr Gk))
  case atStart=>exact⟨i1,j1,H4g,by first|rfl|(congr 1<;>omega),by first|rfl|(congr 1<;>omega),aa,aj,H4⟩
  case round =>
   obtain⟨i0,j0,Gk,rfl,rfl,hbd,hk,HK⟩:=hrel;go_upto_block 6 with fail;go_cut [10] from 99 to 152 (λv wx=>∃i:Nat,v=vi i/\(a+1<=i/\i0<=i/\i<=j0+2)/\Hid (US w g n G wx Gk))
   case first =>
    go_wp2_with fail;go_loopg [10] (j0+2-i0) (λk v wr=>∃i:Nat,v=vi i/\(a+1<=i/\i0<=i/\i<=j0+2)/\(j0+2-i)<=k/\Hid (US w g n G wr Gk))
    case atStart=>exact⟨i0,by first|rfl|go_num|(congr 1;omega),aa,aj,HK⟩
    case round =>
     obtain⟨i,rfl,hb,hk,HI⟩:=hrel;by_cases hij:i<=j0
     ·have hd:(i:Int)<=(j0:Int):=aa;have qi:(i:Int)<(n:Int):=aa;have qa:(a:Int)<(n:Int):=aa;obtain⟨Gu,ca,JA⟩:=HI.o.row.kn (i) aa;obtain⟨cbv,cb,JB⟩:=HI.o.row.kn (a) aa;go_wp2_with fail;go_quiet (first|(go_at_call 190;refine af1 (fw _ _ _)));generalize (decide (Gu<cbv))=tt;cases tt
      ·go_wp2;go_meet;exact⟨i,rfl,aa,az (HI.o.drewN _)⟩
      go_wp2_with fail;go_roundg ((j0+2-(i+1)))
      case measure=>omega
      case rel=>exact⟨(i+1),by first|rfl|go_num|(congr 1;omega),aa,aj,az (HI.o.drewN _)⟩
     have hd:decide ((i:Int)<=(j0:Int))=false:=decide_eq_false aa;go_wp2_with fail;go_quiet (fail);go_wp2;go_meet;exact⟨i,rfl,aa,az (HI.o.drewN _)⟩
   case rest =>
   obtain⟨i,rfl,H5b,H5⟩:=hcut;generalize wc=H5w at*;go_upto_block 8 with fail;go_cut [11] from 99 to 152 (λv wx=>∃j:Nat,v=vi j/\(i<=j+2/\j<=j0/\a<=j)/\Hid (US w g n G wx Gk))
   case first =>
    go_wp2_with fail;go_loopg [11] (j0+2-i) (λk v wr=>∃j:Nat,v=vi j/\(i<=j+2/\j<=j0/\a<=j)/\(j+2-i)<=k/\Hid (US w g n G wr Gk))
    case atStart=>exact⟨j0,by first|rfl|go_num|(congr 1;omega),aa,aj,H5⟩
    case round =>
     obtain⟨j,rfl,hb,hk,HI⟩:=hrel;by_cases hij:i<=j
     ·have hd:(i:Int)<=(j:Int):=aa;have qj:(j:Int)<(n:Int):=aa;have qa:(a:Int)<(n:Int):=aa;obtain⟨Gu,ca,JA⟩:=HI.o.row.kn (j) aa;obtain⟨cbv,cb,JB⟩:=HI.o.row.kn (a) aa;go_wp2_with fail;go_quiet (first|(go_at_call 190;refine af1 (fw _ _ _)));generalize (!decide (Gu<cbv))=tt;cases tt
      ·go_wp2;go_meet;exact⟨j,rfl,aa,az (HI.o.drewN _)⟩
      go_wp2_with fail;go_roundg (((j-1)+2-i))
      case measure=>omega
      case rel=>exact⟨(j-1),by first|rfl|go_num|(congr 1;omega),aa,aj,az (HI.o.drewN _)⟩
     have hd:decide ((i:Int)<=(j:Int))=false:=decide_eq_false aa;go_wp2_with fail;go_quiet (fail);go_wp2;go_meet;exact⟨j,rfl,aa,az (HI.o.drewN _)⟩
   case rest =>
   obtain⟨j,rfl,H6b,H6⟩:=hcut;generalize wc=H6w at*;by_cases hij:j<i
   ·go_wp2;go_meet;exact⟨i,j,Gk,rfl,rfl,aa,H6⟩
   go_wp2_with fail;go_upto_region 18 with fail;go_cut [148] from 99 to 152 (λ_ wx=>Hid (US w g n G wx (swp Gk i j)))
   case first =>
    have qi:(i:Int)<(n:Int):=aa;have qj:(j:Int)<(n:Int):=aa;obtain⟨Qe,Qf,sv,ci,lH,cj,lI,hs,f1,f2⟩:=H6.o.row.two (i) (j) aa aa;go_region;all_goals
     go_wp2;go_meet;exact az (by rw[<-lH.o,<-lI.o];exact(H6.o.drewN _).swap aa aa)
   case rest =>
   have H7:=hcut;clear hcut;generalize wc=H7w at*;obtain⟨H7g,ZV⟩:∃zz,swp Gk i j=zz:=⟨_,rfl⟩;rw[ZV]at H7;clear ZV;go_wp2_with fail;go_roundg (j-1+2-(i+1))
   case measure=>omega
   case rel=>exact⟨i+1,j-1,H7g,by go_num,by first|rfl|(congr 1;omega),aa,aj,H7⟩
 case rest =>
 obtain⟨i,j,Gk,rfl,rfl,hbd,H8⟩:=hcut;generalize wc=H8w at*;go_upto_region 21 with fail;go_cut [166] from 153 to 166 (λ_ wx=>Hid (US w g n G wx (swp Gk j a)))
 case first =>
  have qj:(j:Int)<(n:Int):=aa;have qa:(a:Int)<(n:Int):=aa;obtain⟨Qe,Qf,sv,ci,lH,cj,lI,hs,f1,f2⟩:=H8.o.row.two (j) (a) aa aa;go_region;all_goals
   go_wp2;go_meet;exact az (by rw[<-lH.o,<-lI.o];exact(H8.o.drewN _).swap aa aa)
 case rest =>
 have H9:=hcut;clear hcut;generalize wc=H9w at*;obtain⟨H9g,H9e⟩:∃zz,swp Gk j a=zz:=⟨_,rfl⟩;rw[H9e]at H9;clear H9e;go_wp2;go_ret2;exact⟨j,false,rfl,aa,aa,H9g,H9.o⟩
def Yv (h:UR w g n G)(c a b pv:Nat)(hab:a<b)(hp:a<=pv/\pv<b)(hb:b<=n)(hn:n<1000000) :
  ac4 prog 191 #[aco (some ⟨g,0,none⟩) n c,vi a,vi b,vi pv] w λe w'=>∃m:Nat,e=ab4 (vi m)/\a<m/\m<=b/\∃G',US w g n G w' G':=by
 have H:=az (US.refl h);clear h;go_in;obtain⟨jb,hj⟩:∃j:Nat,(b:Int)-1=j:=⟨b-1,aa⟩;go_upto_region 1 with fail;go_cut [24] from 11 to 24 (λ_ wx=>Hid (US w g n G wx (swp G a pv)))
 case first =>
  have qa:(a:Int)<(n:Int):=aa;have qpv:(pv:Int)<(n:Int):=aa;obtain⟨Qe,Qf,sv,ci,lH,cj,lI,hs,f1,f2⟩:=H.o.row.two (a) (pv) aa aa;go_region;all_goals
   go_wp2;go_meet;exact az (by rw[<-lH.o,<-lI.o];exact(H.o.drewN _).swap aa aa)
 case rest =>
 have H1:=hcut;clear hcut;generalize wc=H1w at*;obtain⟨Ws,H1e⟩:∃zz,swp G a pv=zz:=⟨_,rfl⟩;rw[H1e]at H1;clear H1e;go_upto_block 0 with fail;go_cut [9,10] from 29 to 82 (λv9 v10 wx=>∃(i j:Nat) (Gk:Nat->Nat),v9=vi i/\v10=vi j/\(a+1<=i/\i<=b)/\Hid (US w g n G wx Gk))
 case first =>
  go_wp2_with fail;go_loopg [9,10] (jb+2-(a+1)) (λk v9 v10 wr=>∃(i j:Nat) (Gk:Nat->Nat),v9=vi i/\v10=vi j/\(a+1<=i/\i<=b/\i<=j+2/\a<=j/\j<b)/\j+2-i<=k/\Hid (US w g n G wr Gk))
  case atStart=>exact⟨a+1,jb,Ws,by first|rfl|go_num|(congr 1<;>omega),by first|rfl|(congr 1<;>omega),aa,aj,H1⟩
  case round =>
   obtain⟨i0,j0,Gk,rfl,rfl,hbd,hk,HK⟩:=hrel;go_upto_block 2 with fail;go_cut [9] from 29 to 82 (λv wx=>∃i:Nat,v=vi i/\(a+1<=i/\i0<=i/\i<=j0+2/\i<=b)/\Hid (US w g n G wx Gk))
   case first =>
    go_wp2_with fail;go_loopg [9] (j0+2-i0) (λk v wr=>∃i:Nat,v=vi i/\(a+1<=i/\i0<=i/\i<=j0+2/\i<=b)/\(j0+2-i)<=k/\Hid (US w g n G wr Gk))
    case atStart=>exact⟨i0,by first|rfl|go_num|(congr 1;omega),aa,aj,HK⟩
    case round =>
     obtain⟨i,rfl,hb,hk,HI⟩:=hrel;by_cases hij:i<=j0
     ·have hd:(i:Int)<=(j0:Int):=aa;have qi:(i:Int)<(n:Int):=aa;have qa:(a:Int)<(n:Int):=aa;obtain⟨Gu,ca,JA⟩:=HI.o.row.kn (a) aa;obtain⟨cbv,cb,JB⟩:=HI.o.row.kn (i) aa;go_wp2_with fail;go_quiet (first|(go_at_call 190;refine af1 (fw _ _ _)));generalize (!decide (Gu<cbv))=tt;cases tt
      ·go_wp2;go_meet;exact⟨i,rfl,aa,az (HI.o.drewN _)⟩
      go_wp2_with fail;go_roundg ((j0+2-(i+1)))
      case measure=>omega
      case rel=>exact⟨(i+1),by first|rfl|go_num|(congr 1;omega),aa,aj,az (HI.o.drewN _)⟩
     have hd:decide ((i:Int)<=(j0:Int))=false:=decide_eq_false aa;go_wp2_with fail;go_quiet (fail);go_wp2;go_meet;exact⟨i,rfl,aa,az (HI.o.drewN _)⟩
   case rest =>
   obtain⟨i,rfl,H5b,H5⟩:=hcut;generalize wc=H5w at*;go_upto_block 4 with fail;go_cut [10] from 29 to 82 (λv wx=>∃j:Nat,v=vi j/\(i<=j+2/\j<=j0/\a<=j)/\Hid (US w g n G wx Gk))
   case first =>
    go_wp2_with fail;go_loopg [10] (j0+2-i) (λk v wr=>∃j:Nat,v=vi j/\(i<=j+2/\j<=j0/\a<=j)/\(j+2-i)<=k/\Hid (US w g n G wr Gk))
    case atStart=>exact⟨j0,by first|rfl|go_num|(congr 1;omega),aa,aj,H5⟩
    case round =>
     obtain⟨j,rfl,hb,hk,HI⟩:=hrel;by_cases hij:i<=j
     ·have hd:(i:Int)<=(j:Int):=aa;have qj:(j:Int)<(n:Int):=aa;have qa:(a:Int)<(n:Int):=aa;obtain⟨Gu,ca,JA⟩:=HI.o.row.kn (a) aa;obtain⟨cbv,cb,JB⟩:=HI.o.row.kn (j) aa;go_wp2_with fail;go_quiet (first|(go_at_call 190;refine af1 (fw _ _ _)));generalize (decide (Gu<cbv))=tt;cases tt
      ·go_wp2;go_meet;exact⟨j,rfl,aa,az (HI.o.drewN _)⟩
      go_wp2_with fail;go_roundg (((j-1)+2-i))
      case measure=>omega
      case rel=>exact⟨(j-1),by first|rfl|go_num|(congr 1;omega),aa,aj,az (HI.o.drewN _)⟩
     have hd:decide ((i:Int)<=(j:Int))=false:=decide_eq_false aa;go_wp2_with fail;go_quiet (fail);go_wp2;go_meet;exact⟨j,rfl,aa,az (HI.o.drewN _)⟩
   case rest =>
   obtain⟨j,rfl,H6b,H6⟩:=hcut;generalize wc=H6w at*;by_cases hij:j<i
   ·go_wp2;go_meet;exact⟨i,j,Gk,rfl,rfl,aa,H6⟩
   go_wp2_with fail;go_upto_region 8 with fail;go_cut [78] from 29 to 82 (λ_ wx=>Hid (US w g n G wx (swp Gk i j)))
   case first =>
    have qi:(i:Int)<(n:Int):=aa;have qj:(j:Int)<(n:Int):=aa;obtain⟨Qe,Qf,sv,ci,lH,cj,lI,hs,f1,f2⟩:=H6.o.row.two (i) (j) aa aa;go_region;all_goals
     go_wp2;go_meet;exact az (by rw[<-lH.o,<-lI.o];exact(H6.o.drewN _).swap aa aa)
   case rest =>
   have H7:=hcut;clear hcut;generalize wc=H7w at*;obtain⟨H7g,ZV⟩:∃zz,swp Gk i j=zz:=⟨_,rfl⟩;rw[ZV]at H7;clear ZV;go_wp2_with fail;go_roundg (j-1+2-(i+1))
   case measure=>omega
   case rel=>exact⟨i+1,j-1,H7g,by go_num,by first|rfl|(congr 1;omega),aa,aj,H7⟩
 case rest =>
 obtain⟨i,j,Gk,rfl,rfl,hbd,H8⟩:=hcut;generalize wc=H8w at*;go_wp2;go_ret;exact⟨i,rfl,aa,aa,Gk,H8.o⟩
def JC (h:UR w g n G)(c lo hi first:Nat)(hlo:lo<=n)(hhi:first+hi<=n)(hn:n<1000000) :
  ac4 prog 211 #[aco (some ⟨g,0,none⟩) n c,vi lo,vi hi,vi first] w (UP w g n G):=by
 have H:=az (US.refl h);clear h;go_in;go_wp2_with fail;go_loopg [8] (n-lo) (λk v8 wr=>∃(r:Nat) (Gk:Nat->Nat),v8=vi r/\r<=n/\n-r<=k/\Hid (US w g n G wr Gk))
 case atStart=>exact⟨lo,G,rfl,aa,aa,H⟩
 case round =>
  obtain⟨r,Gk,rfl,hrn,hk,HK⟩:=hrel;go_upto_region 2 with fail;obtain⟨ch,hch⟩:∃ch:Nat,2*(r:Int)+1=ch:=⟨2*r+1,aa⟩;rw[hch];by_cases hlt:ch<hi
  ·go_wp2_with fail;by_cases hg:ch+1<hi;have hd:(ch:Int)+1<(hi:Int):=aa;have c1:wr.cell? ⟨g,first+ch,none⟩=some (vw (Gk (first+ch))):=HK.o.row.cell aa;have c2:wr.cell? ⟨g,first+ch+1,none⟩=some (vw (Gk (first+ch+1))):=HK.o.row.cell aa;have pw:adk.wrap ((first:Int)+(ch:Int))=(first:Int)+(ch:Int):=adl _ aa;have p0:(0:Int)<=(first:Int)+(ch:Int):=aa;have pn:(first:Int)+(ch:Int)<(n:Int):=aa;have pt:((first:Int)+(ch:Int)).toNat=first+ch:=aa;have qw:adk.wrap ((first:Int)+(ch:Int)+1)=(first:Int)+(ch:Int)+1:=adl _ aa;have q0:(0:Int)<=(first:Int)+(ch:Int)+1:=aa
   have qn:(first:Int)+(ch:Int)+1<(n:Int):=aa;have qt:((first:Int)+(ch:Int)+1).toNat=first+ch+1:=aa;obtain⟨x,hx⟩:∃x,Gk (first+ch)=x:=⟨_,rfl⟩;obtain⟨y,hy⟩:∃y,Gk (first+ch+1)=y:=⟨_,rfl⟩;rw[hx]at c1;rw[hy]at c2;clear hx hy;go_quiet (first|(go_at_call 190;refine af1 (fw _ _ _)));clear c1 c2 pw p0 pn pt qw q0 qn qt;by_cases hl:x<y;go_upto_region 5 with fail;obtain⟨DL,Vn⟩:∃DL:Nat,(ch:Int)+1=DL:=⟨ch+1,aa⟩;rw[Vn];rotate_left
   go_upto_region 5 with fail;obtain⟨DL,Vn⟩:∃DL:Nat,(ch:Int)=DL:=⟨ch,rfl⟩;rw[Vn];rotate_left
   have hd:decide ((ch:Int)+1<(hi:Int))=false:=decide_eq_false aa;go_quiet (fail);go_upto_region 5 with fail;obtain⟨DL,Vn⟩:∃DL:Nat,(ch:Int)=DL:=⟨ch,rfl⟩;rw[Vn];all_goals
    have zG:=az (HK.o.drewN nq);generalize wr.drewN nq=wq at*;have c3:wq.cell? ⟨g,first+r,none⟩=some (vw (Gk (first+r))):=zG.o.row.cell aa;have c4:wq.cell? ⟨g,first+DL,none⟩=some (vw (Gk (first+DL))):=zG.o.row.cell aa;have rw:adk.wrap ((first:Int)+(r:Int))=(first:Int)+(r:Int):=adl _ aa;have r0:(0:Int)<=(first:Int)+(r:Int):=aa;have rn:(first:Int)+(r:Int)<(n:Int):=aa;have rt:((first:Int)+(r:Int)).toNat=first+r:=aa;have sw:adk.wrap ((first:Int)+(DL:Int))=(first:Int)+(DL:Int):=adl _ aa;have s0:(0:Int)<=(first:Int)+(DL:Int):=aa
    have sn:(first:Int)+(DL:Int)<(n:Int):=aa;have st:((first:Int)+(DL:Int)).toNat=first+DL:=aa;obtain⟨z,hz⟩:∃z,Gk (first+r)=z:=⟨_,rfl⟩;obtain⟨u,hu⟩:∃u,Gk (first+DL)=u:=⟨_,rfl⟩;rw[hz]at c3;rw[hu]at c4;have HZ:=az hz;have HU:=az hu;clear hz hu;go_quiet (first|(go_at_call 190;refine af1 (fw _ _ _)));generalize (!decide (z<u))=tt;cases tt
    ·go_wp2_with fail;have f1:=zG.o.row.frozen (first+r);have f2:=zG.o.row.frozen (first+DL);go_region;all_goals
      go_wp2_with fail;go_roundg (n-DL)
      case measure=>omega
      case rel=>exact⟨DL,swp Gk (first+r) (first+DL),rfl,aa,aj,az (by rw[<-HZ.o,<-HU.o];exact(zG.o.drewN _).swap aa aa)⟩
    go_wp2_with fail;refine bodyPost_ret (results_none rfl _ _ _) rfl ?_;exact⟨rfl,Gk,zG.o.drewN _⟩
  go_wp2_with fail;go_end0;exact⟨rfl,Gk,HK.o⟩
def Vo (h:UR w g n G)(c a b:Nat)(hab:a<b)(hb:b<=n)(hn:n<1000000) :
  ac4 prog 185 #[aco (some ⟨g,0,none⟩) n c,vi a,vi b] w (UP w g n G):=by
 have H:=az (US.refl h);clear h;go_in;obtain⟨hi,hhi⟩:∃hi:Nat,(b:Int)-(a:Int)=hi:=⟨b-a,aa⟩;obtain⟨q,hq⟩:∃q:Nat,((hi:Int)-1).tdiv 2=q:=⟨(hi-1)/2,by rw[show (hi:Int)-1=((hi-1:Nat):Int) by omega];rfl⟩;have hq2:q<=n:=by
  have h1:((hi:Int)-1).tdiv 2=((hi:Int)-1)/2:=ae3 aa;rw[h1]at hq;omega
 go_upto_block 0 with fail;go_cut [9] from 18 to 26 (λ_ wx=>∃Gk:Nat->Nat,Hid (US w g n G wx Gk))
 case first =>
  go_wp2_with fail;go_loopg [9] (q+1) (λk v9 wr=>∃(i:Nat) (Gk:Nat->Nat),v9=.int .i64 ((i:Int)-1)/\i<=q+1/\i<=k/\Hid (US w g n G wr Gk))
  case atStart=>exact⟨q+1,G,by first|rfl|(congr 1<;>omega),aj,aj,H⟩
  case round =>
   obtain⟨i,Gk,rfl,hiq,hk,HK⟩:=hrel;by_cases h0:0<i
   ·obtain⟨k,hk1⟩:∃k:Nat,(i:Int)-1=k:=⟨i-1,aa⟩;rw[hk1];go_wp2_with (go_at_call 211;refine(JC HK.o.row c k hi a aa aa hn).mono ?_;rintro e w2 ⟨rfl,G2,h2⟩);have H2:=az (HK.o.trans h2);clear h2;go_wp2_with fail;go_roundg k
    case measure=>omega
    case rel=>exact⟨k,G2,by first|rfl|(congr 1<;>omega),aa,aj,H2⟩
   have hd:¬(0:Int)<=(i:Int)-1:=aa;go_wp2;go_meet;exact⟨Gk,HK⟩
 case rest =>
 obtain⟨G1,H1⟩:=hcut;generalize wc=H1w at*;clear hq;go_wp2_with fail;go_loopg [10] hi (λk v10 wr=>∃(i:Nat) (Gk:Nat->Nat),v10=.int .i64 ((i:Int)-1)/\i<=hi/\i<=k/\Hid (US w g n G wr Gk))
 case atStart=>exact⟨hi,G1,by first|rfl|(congr 1<;>omega),aj,aj,H1⟩
 case round =>
  obtain⟨i,Gk,rfl,hiq,hk,HK⟩:=hrel;by_cases h0:0<i
  ·obtain⟨k,hk1⟩:∃k:Nat,(i:Int)-1=k:=⟨i-1,aa⟩;rw[hk1];go_wp2_with fail;go_upto_region 10 with fail;go_cut [50] from 29 to 55 (λ_ wx=>Hid (US w g n G wx (swp Gk a (a+k))))
   case first =>
    have qa:(a:Int)<(n:Int):=aa;have pw:adk.wrap ((a:Int)+(k:Int))=(a:Int)+(k:Int):=adl _ aa;have p0:(0:Int)<=(a:Int)+(k:Int):=aa;have pn:(a:Int)+(k:Int)<(n:Int):=aa;have pt:((a:Int)+(k:Int)).toNat=a+k:=aa;obtain⟨Qe,Qf,sv,ci,lH,cj,lI,hs,f1,f2⟩:=HK.o.row.two (a) ((a+k)) aa aa;go_region;all_goals
     go_wp2;go_meet;exact az (by rw[<-lH.o,<-lI.o];exact(HK.o.drewN _).swap aa aa)
   case rest =>
   have H7:=hcut;clear hcut;generalize wc=H7w at*;obtain⟨H7g,ZV⟩:∃zz,swp Gk a (a+k)=zz:=⟨_,rfl⟩;rw[ZV]at H7;clear ZV;go_wp2_with (go_at_call 211;refine(JC H7.o.row c 0 k a aa aa hn).mono ?_;rintro e w2 ⟨rfl,G2,h2⟩);have H2:=az (H7.o.trans h2);clear h2;go_wp2_with fail;go_roundg k
   case measure=>omega
   case rel=>exact⟨k,G2,by first|rfl|(congr 1<;>omega),aa,aj,H2⟩
  have hd:¬(0:Int)<=(i:Int)-1:=aa;go_wp2_with fail;go_end0;exact⟨rfl,Gk,HK.o⟩
structure NJ (w:acL)(g n:Nat)(G:Nat->Nat)(s m d:Nat)(w':acL):Prop where
 row:UR w' g n G
 blk:∃m':Nat,m'<=m+d/\aD w' s 3 #[vi m']
 aJ:aP (λk=>k=s) w w'
variable{s m d d':Nat}
def NJ.trans {m':Nat}(h:aP (λk=>k=s) w w')(hm:m'<=m+d)(k:NJ w' g n G s m' d' w''):NJ w g n G s m (d+d') w'':=by
 obtain⟨m2,h1,h2⟩:=k.blk;exact⟨k.row,⟨m2,aa,h2⟩,h.trans k.aJ (λ_ _ e=>e)⟩
def Cq (h:UR w g n G)(c a b s m L U:Nat)(hs:aD w s 3 #[vi m])(hgs:g≠s)(hm:m<1000)(ha:L<=a/\a<U)(hb:L<=b/\b<U)(hU:U<=n)(hn:n<1000000) :
  ac4 prog 236 #[aco (some ⟨g,0,none⟩) n c,vi a,vi b,.pointer (some ⟨s,0,none⟩)] w λe w'=>∃x y:Nat,e=ab4 (adg #[vi x,vi y])/\(L<=x/\x<U)/\(L<=y/\y<U)/\NJ w g n G s m 1 w':=by
 have H:=az h;have HS:=az hs;clear h hs;have q1:(a:Int)<(n:Int):=aa;have q2:(b:Int)<(n:Int):=aa;obtain⟨x,hx⟩:∃x,G a=x:=⟨_,rfl⟩;obtain⟨y,hy⟩:∃y,G b=y:=⟨_,rfl⟩;have c1:w.cell? ⟨g,a,none⟩=some (vw x):=by rw[<-hx];exact H.o.cell aa
 have c2:w.cell? ⟨g,b,none⟩=some (vw y):=by rw[<-hy];exact H.o.cell aa
 clear hx hy;go_in;go_wp2_with fail;go_quiet (first|(go_at_call 190;refine af1 (fw _ _ _)));have HW:Hid (UR (w.drewN nq) g n G/\aD (w.drewN nq) s 3 #[vi m]/\aP (λk=>k=s) w (w.drewN nq)) :=
  az ⟨H.o.old ⟨rfl,rfl,rfl,aj,λ_ _=>rfl⟩,HS.o,⟨rfl,rfl,rfl,aj,λ_ _ _=>rfl⟩⟩
 clear c1 c2;generalize w.drewN nq=w1 at*;generalize (decide (y<x))=tt;cases tt
 ·go_wp2;go_ret2;exact⟨a,b,rfl,ha,hb,HW.o.1,⟨m,aa,HW.o.2.1⟩,HW.o.2.2⟩
 have d0:w1.cell? ⟨s,0,none⟩=some (vi m):=HW.o.2.1.cell 0;have d1:=HW.o.2.1.frozen 0;go_wp2;go_ret2;have hc:aP (λk=>k=s) w1 (w1.setCell ⟨s,0,none⟩ (vi ((m+1:Nat):Int))):=⟨rfl,rfl,rfl,ai,λk hk hn=>acN.heap_setCell w1 _ _ k hn⟩;exact⟨b,a,rfl,hb,ha,by
  obtain⟨cs,h1,h2⟩:=HW.o.1
  exact⟨cs,h1.aJ hc hgs,h2⟩,⟨m+1,aj,HW.o.2.1.bB 0 _⟩,HW.o.2.2.trans hc (λ_ _ e=>e)⟩
def NK (h:UR w g n G)(c a b z s m L U:Nat)(hs:aD w s 3 #[vi m])(hgs:g≠s)(hm:m<900)(ha:L<=a/\a<U)(hb:L<=b/\b<U)(hz:L<=z/\z<U)(hU:U<=n)(hn:n<1000000) :
  ac4 prog 213 #[aco (some ⟨g,0,none⟩) n c,vi a,vi b,vi z,.pointer (some ⟨s,0,none⟩)] w λe w'=>∃x:Nat,e=ab4 (vi x)/\(L<=x/\x<U)/\NJ w g n G s m 3 w':=by
 go_in;go_wp2_with fail;refine(Cq h c a b s m L U hs hgs aa ha hb hU hn).mono ?_;rintro e w1 ⟨x1,y1,rfl,hx1,hy1,s1⟩;obtain⟨m1,hm1,b1⟩:=s1.blk;have S1:=az s1;have B1:=az b1;clear s1 b1 hs h;go_wp2_with fail;refine(Cq S1.o.row c y1 z s m1 L U B1.o hgs aa hy1 hz hU hn).mono ?_;rintro e w2 ⟨x2,y2,rfl,hx2,hy2,s2⟩;have S2:=az (NJ.trans S1.o.aJ hm1 s2);clear s2;obtain⟨m2,hm2,b2⟩:=S2.o.blk;have B2:=az b2;clear b2;go_wp2_with fail;refine(Cq S2.o.row c x1 x2 s m2 L U B2.o hgs aa hx1 hx2 hU hn).mono ?_;rintro e w3 ⟨x3,y3,rfl,hx3,hy3,s3⟩;have S3:=az (NJ.trans S2.o.aJ hm2 s3)
 clear s3;go_wp2;go_ret;exact⟨y3,rfl,hy3,S3.o⟩
def Cs (h:UR w g n G)(c a s m L U:Nat)(hs:aD w s 3 #[vi m])(hgs:g≠s)(hm:m<900)(ha:L+1<=a/\a+1<U)(hU:U<=n)(hn:n<1000000) :
  ac4 prog 212 #[aco (some ⟨g,0,none⟩) n c,vi a,.pointer (some ⟨s,0,none⟩)] w λe w'=>∃x:Nat,e=ab4 (vi x)/\(L<=x/\x<U)/\NJ w g n G s m 3 w':=by
 obtain⟨a0,ha0⟩:∃a0:Nat,(a:Int)-1=a0:=⟨a-1,aa⟩;obtain⟨a1,ha1⟩:∃a1:Nat,(a:Int)+1=a1:=⟨a+1,aa⟩;have b0:L<=a0/\a0<U:=aa;have b1:L<=a/\a<U:=aa;have b2:L<=a1/\a1<U:=aa;go_in;go_wp2_with fail;refine(NK h c a0 a a1 s m L U hs hgs hm b0 b1 b2 hU hn).mono ?_;rintro e w1 ⟨x1,rfl,hx1,s1⟩;go_wp2;go_ret;exact⟨x1,rfl,hx1,s1⟩
def Yw (h:UR w g n G)(c a b:Nat)(hab:a+8<=b)(hb:b<=n)(hn:n<1000000) :
  ac4 prog 187 #[aco (some ⟨g,0,none⟩) n c,vi a,vi b] w λe w'=>∃(x:Nat) (t:Int),e=ab4 (adg #[vi x,vi t])/\(a<=x/\x<b)/\US w g n G w' G:=by
 obtain⟨l,hl⟩:∃l:Nat,(b:Int)-(a:Int)=l:=⟨b-a,aa⟩;obtain⟨q,hq⟩:∃q:Nat,(l:Int).tdiv 4=q:=⟨l/4,rfl⟩;have hq2:2<=q/\4*q<=l:=by
  have h1:(l:Int).tdiv 4=(l:Int)/4:=ae3 aa;rw[h1]at hq;omega
 obtain⟨i,hi⟩:∃i:Nat,(a:Int)+(q:Int)=i:=⟨a+q,aa⟩;obtain⟨j,hj⟩:∃j:Nat,(a:Int)+(q:Int)*2=j:=⟨a+q*2,aa⟩;obtain⟨k,hk⟩:∃k:Nat,(a:Int)+(q:Int)*3=k:=⟨a+q*3,aa⟩;have h8:(8:Int)<=(l:Int):=aa;have hgw:g<w.heap.size:=h.lt;have H:=az h;clear h;go_in;go_upto_region 7 with fail;have hgs:g≠w.heap.size:=aa;have HS:Hid (NJ (w.alloc (ach #[vi 0] 3)) g n G w.heap.size 0 0 (w.alloc (ach #[vi 0] 3))) :=
  az ⟨H.o.old ax,⟨0,aj,aD.new _ _ _⟩,aP.refl _ _⟩
 have HB:Hid (acN w.heap.size w (w.alloc (ach #[vi 0] 3))):=az ax;generalize w.alloc (ach #[vi 0] 3)=w0 at*;obtain⟨s,hsz⟩:∃s,w.heap.size=s:=⟨_,rfl⟩;rw[hsz]at HS hgs ⊢;have DC:=az hsz;clear hsz;go_upto_if 34 with fail;go_cut [10,11,12] from 34 to 43 (λv10 v11 v12 wx=>∃x1 x2 x3:Nat,v10=vi x1/\v11=vi x2/\v12=vi x3/\(a<=x1/\x1<b)/\(a<=x2/\x2<b)/\(a<=x3/\x3<b)/\Hid (NJ w0 g n G s 0 9 wx))
 case first =>
  by_cases h50:50<=l
  ·have b1:a+1<=i/\i+1<b:=aa;have b2:a+1<=j/\j+1<b:=aa;have b3:a+1<=k/\k+1<b:=aa;obtain⟨m0,hm0,e0⟩:=HS.o.blk;have E0:=az e0;clear e0;go_wp2_with fail;refine(Cs HS.o.row c i s m0 a b E0.o hgs aa b1 hb hn).mono ?_;rintro e w1 ⟨x1,rfl,hx1,s1⟩;have S1:=az (NJ.trans HS.o.aJ hm0 s1);obtain⟨m1,hm1,e1⟩:=s1.blk;have E1:=az e1;clear s1 e1;go_wp2_with fail;refine(Cs S1.o.row c j s m1 a b E1.o hgs aa b2 hb hn).mono ?_;rintro e w2 ⟨x2,rfl,hx2,s2⟩;have S2:=az (NJ.trans S1.o.aJ (show m1<=0+(0+3) by omega) s2);obtain⟨m2,hm2,e2⟩:=s2.blk;have E2:=az e2;clear s2 e2
   go_wp2_with fail;refine(Cs S2.o.row c k s m2 a b E2.o hgs aa b3 hb hn).mono ?_;rintro e w3 ⟨x3,rfl,hx3,s3⟩;have S3:=az (NJ.trans S2.o.aJ (show m2<=0+(0+3+3) by omega) s3);clear s3;go_wp2;go_meet;exact⟨x1,x2,x3,rfl,rfl,rfl,hx1,hx2,hx3,S3⟩
  go_wp2;go_meet;obtain⟨m0,hm0,e0⟩:=HS.o.blk;exact⟨i,j,k,rfl,rfl,rfl,aa,aa,aa,az ⟨HS.o.row,⟨m0,aa,e0⟩,HS.o.aJ⟩⟩
 case rest =>
 obtain⟨x1,x2,x3,rfl,rfl,rfl,hx1,hx2,hx3,HC⟩:=hcut;obtain⟨m0,hm0,e0⟩:=HC.o.blk;have E0:=az e0;clear e0 hi hj hk hq;go_wp2_with fail;refine(NK HC.o.row c x1 x2 x3 s m0 a b E0.o hgs aa hx1 hx2 hx3 hb hn).mono ?_;rintro e w1 ⟨x,rfl,hx,s1⟩;have S1:=az (NJ.trans HC.o.aJ hm0 s1);obtain⟨m1,hm1,e1⟩:=s1.blk;have HU:Hid (US w g n G w1 G):=az (((US.refl H.o).far hgw (F:=λ_=>False) (aP.of_below HB.o) (λ_ e=>e.elim)).far hgw S1.o.aJ (λk e=>by have:=DC.o;omega));have d0:w1.cell? ⟨s,0,none⟩=some (vi m1):=e1.cell 0;clear s1 e1 S1;by_cases e0:m1=0
 ·subst e0;go_wp2;go_ret2;exact⟨x,1,rfl,hx,HU.o⟩
 by_cases e12:m1=12
 ·subst e12;go_wp2;go_ret2;exact⟨x,2,rfl,hx,HU.o⟩
 have hd0:((m1:Int)==0)=false:=by simp;omega
 have aob:((m1:Int)==12)=false:=by simp;omega
 go_wp2;go_ret2;exact⟨x,0,rfl,hx,HU.o⟩
def PB (w:acL)(g n:Nat)(G:Nat->Nat)(e:Ending)(w':acL):Prop:=∃t:Bool,e=ab4 (.bool t)/\∃G',US w g n G w' G'
def Vp (h:UR w g n G)(c a b:Nat)(hab:a<b)(hb:b<=n)(hn:n<1000000) :
  ac4 prog 189 #[aco (some ⟨g,0,none⟩) n c,vi a,vi b] w (PB w g n G):=by
 have H:=az (US.refl h);clear h;go_in;go_upto_block 0 with fail;go_wp2_with fail;go_loopg [7,8] 5 (λk v7 v8 wr=>∃(i j:Nat) (Gk:Nat->Nat),v7=vi i/\v8=vi j/\(a+1<=i/\i<=b)/\(j<=5/\5-j<=k)/\Hid (US w g n G wr Gk))
 case atStart=>exact⟨a+1,0,G,by first|rfl|go_num,rfl,aa,aa,H⟩
 case round =>
  obtain⟨i0,j0,Gk,rfl,rfl,hbd,hk,HK⟩:=hrel;by_cases hj5:j0<5
  ·have aji:(j0:Int)<5:=aa;go_upto_block 2 with fail;go_cut [7] from 13 to 132 (λv wx=>∃i:Nat,v=vi i/\(a+1<=i/\i<=b)/\Hid (US w g n G wx Gk))
   case first =>
    go_wp2_with fail;go_loopg [7] (b-i0) (λk v wr=>∃i:Nat,v=vi i/\(a+1<=i/\i<=b)/\b-i<=k/\Hid (US w g n G wr Gk))
    case atStart=>exact⟨i0,rfl,aa,aj,HK⟩
    case round =>
     obtain⟨i,rfl,hb2,hk2,HI⟩:=hrel;by_cases hij:i<b
     ·have hd:(i:Int)<(b:Int):=aa;have qi:(i:Int)<(n:Int):=aa;have pw:adk.wrap ((i:Int)-1)=(i:Int)-1:=adl _ aa;have p0:(0:Int)<=(i:Int)-1:=aa;have pn:(i:Int)-1<(n:Int):=aa;have pt:((i:Int)-1).toNat=i-1:=aa;obtain⟨Gu,ca,JA⟩:=HI.o.row.kn (i) aa;obtain⟨cbv,cb,JB⟩:=HI.o.row.kn ((i-1)) aa;go_wp2_with fail;go_quiet (first|(go_at_call 190;refine af1 (fw _ _ _)));generalize (!decide (Gu<cbv))=tt;cases tt
      ·go_wp2;go_meet;exact⟨i,rfl,aa,az (HI.o.drewN _)⟩
      go_wp2_with fail;go_roundg (b-(i+1))
      case measure=>omega
      case rel=>exact⟨i+1,by first|rfl|go_num|(congr 1;omega),aa,aj,az (HI.o.drewN _)⟩
     have hd:decide ((i:Int)<(b:Int))=false:=decide_eq_false aa;go_wp2_with fail;go_quiet (fail);go_wp2;go_meet;exact⟨i,rfl,aa,az (HI.o.drewN _)⟩
   case rest =>
   obtain⟨i,rfl,hib,H1⟩:=hcut;generalize wc=w1 at*;clear HK;by_cases he:i=b
   ·have he2:((i:Int)==(b:Int))=true:=by simp[he]
    go_wp2;go_ret;exact⟨true,rfl,Gk,H1.o⟩
   have he2:((i:Int)==(b:Int))=false:=by simp;omega
   by_cases h50:b-a<50
   ·have ajj:(b:Int)-(a:Int)<50:=aa;go_wp2;go_ret;exact⟨false,rfl,Gk,H1.o⟩
   have ajj:¬(b:Int)-(a:Int)<50:=aa;go_wp2_with fail;go_upto_region 11 with fail;go_cut [60] from 13 to 132 (λ_ wx=>Hid (US w g n G wx (swp Gk i (i-1))))
   case first =>
    have qi:(i:Int)<(n:Int):=aa;have pw:adk.wrap ((i:Int)-1)=(i:Int)-1:=adl _ aa;have p0:(0:Int)<=(i:Int)-1:=aa;have pn:(i:Int)-1<(n:Int):=aa;have pt:((i:Int)-1).toNat=i-1:=aa;obtain⟨Qe,Qf,sv,ci,lH,cj,lI,hs,f1,f2⟩:=H1.o.row.two (i) ((i-1)) aa aa;go_region;all_goals
     go_wp2;go_meet;exact az (by rw[<-lH.o,<-lI.o];exact(H1.o.drewN _).swap aa aa)
   case rest =>
   have H2:=hcut;clear hcut;generalize wc=H2w at*;obtain⟨H2g,H2e⟩:∃zz,swp Gk i (i-1)=zz:=⟨_,rfl⟩;rw[H2e]at H2;clear H2e;go_upto_if 61 with fail;go_cut [9] from 13 to 132 (λ_ wx=>∃Gk:Nat->Nat,Hid (US w g n G wx Gk))
   case first =>
    by_cases h2:(2:Int)<=(i:Int)-(a:Int)
    ·obtain⟨j1,hj1⟩:∃j1:Nat,(i:Int)-1=j1:=⟨i-1,aa⟩;go_upto_block 4 with fail;go_wp2_with fail;go_loopg [9] j1 (λk v wr=>∃(j:Nat) (Gk:Nat->Nat),v=vi j/\j<b/\j<=k/\Hid (US w g n G wr Gk))
     case atStart=>exact⟨j1,H2g,by first|rfl|(congr 1<;>omega),aa,aj,H2⟩
     case round =>
      obtain⟨j,Gk,rfl,hjb,hk,HK⟩:=hrel;by_cases h1:1<=j
      ·have hc1:(1:Int)<=(j:Int):=aa;have qj:(j:Int)<(n:Int):=aa;have pw:adk.wrap ((j:Int)-1)=(j:Int)-1:=adl _ aa;have p0:(0:Int)<=(j:Int)-1:=aa;have pn:(j:Int)-1<(n:Int):=aa;have pt:((j:Int)-1).toNat=j-1:=aa;obtain⟨Gu,ca,JA⟩:=HK.o.row.kn (j) aa;obtain⟨cbv,cb,JB⟩:=HK.o.row.kn ((j-1)) aa;go_upto_region 16 with fail;go_quiet (first|(go_at_call 190;refine af1 (fw _ _ _)));have zG:=az (HK.o.drewN nq);clear ca cb;generalize wr.drewN nq=wq at*;generalize (!decide (Gu<cbv))=tt;cases tt
       ·go_wp2_with fail;clear qj pw p0 pn pt;go_upto_region 17 with fail;have qj:(j:Int)<(n:Int):=aa;have pw:adk.wrap ((j:Int)-1)=(j:Int)-1:=adl _ aa;have p0:(0:Int)<=(j:Int)-1:=aa;have pn:(j:Int)-1<(n:Int):=aa;have pt:((j:Int)-1).toNat=j-1:=aa;obtain⟨Qe,ci,lH⟩:=zG.o.row.kn (j) aa;obtain⟨Qf,cj,lI⟩:=zG.o.row.kn ((j-1)) aa;have f1:=zG.o.row.frozen j;have f2:=zG.o.row.frozen (j-1);go_region;all_goals
         go_wp2_with fail;go_roundg (j-1)
         case measure=>omega
         case rel=>exact⟨j-1,swp Gk j (j-1),by first|rfl|go_num|(congr 1;omega),aa,aa,az (by rw[<-lH.o,<-lI.o];exact(zG.o.drewN _).swap aa aa)⟩
       go_wp2;go_meet;exact⟨Gk,zG⟩
      go_wp2;go_meet;exact⟨Gk,HK⟩
    go_wp2;go_meet;exact⟨H2g,H2⟩
   case rest =>
   obtain⟨G3,H3⟩:=hcut;generalize wc=w3 at*;by_cases h2:(2:Int)<=(b:Int)-(i:Int)
   ·obtain⟨j1,hj1⟩:∃j1:Nat,(i:Int)+1=j1:=⟨i+1,aa⟩;go_upto_block 6 with fail;go_wp2_with fail;go_loopg [10] (b-j1) (λk v wr=>∃(j:Nat) (Gk:Nat->Nat),v=vi j/\(1<=j/\j<=b)/\b-j<=k/\Hid (US w g n G wr Gk))
    case atStart=>exact⟨j1,G3,by first|rfl|(congr 1<;>omega),aa,aj,H3⟩
    case round =>
     obtain⟨j,Gk,rfl,hjb,hk3,HK⟩:=hrel;by_cases h1:j<b
     ·have hc1:(j:Int)<(b:Int):=aa;have qj:(j:Int)<(n:Int):=aa;have pw:adk.wrap ((j:Int)-1)=(j:Int)-1:=adl _ aa;have p0:(0:Int)<=(j:Int)-1:=aa;have pn:(j:Int)-1<(n:Int):=aa;have pt:((j:Int)-1).toNat=j-1:=aa;obtain⟨Gu,ca,JA⟩:=HK.o.row.kn (j) aa;obtain⟨cbv,cb,JB⟩:=HK.o.row.kn ((j-1)) aa;go_upto_region 22 with fail;go_quiet (first|(go_at_call 190;refine af1 (fw _ _ _)));have zG:=az (HK.o.drewN nq);clear ca cb;generalize wr.drewN nq=wq at*;generalize (!decide (Gu<cbv))=tt;cases tt
      ·go_wp2_with fail;clear qj pw p0 pn pt;go_upto_region 23 with fail;have qj:(j:Int)<(n:Int):=aa;have pw:adk.wrap ((j:Int)-1)=(j:Int)-1:=adl _ aa;have p0:(0:Int)<=(j:Int)-1:=aa;have pn:(j:Int)-1<(n:Int):=aa;have pt:((j:Int)-1).toNat=j-1:=aa;obtain⟨Qe,ci,lH⟩:=zG.o.row.kn (j) aa;obtain⟨Qf,cj,lI⟩:=zG.o.row.kn ((j-1)) aa;have f1:=zG.o.row.frozen j;have f2:=zG.o.row.frozen (j-1);go_region;all_goals
        go_wp2_with fail;go_roundg (b-(j+1))
        case measure=>omega
        case rel=>exact⟨j+1,swp Gk j (j-1),by first|rfl|go_num|(congr 1;omega),aa,aa,az (by rw[<-lH.o,<-lI.o];exact(zG.o.drewN _).swap aa aa)⟩
      go_wp2_with fail;go_roundg (5-(j0+1))
      case measure=>omega
      case rel=>exact⟨i,j0+1,Gk,rfl,by first|rfl|go_num,aa,aa,zG⟩
     go_wp2_with fail;go_roundg (5-(j0+1))
     case measure=>omega
     case rel=>exact⟨i,j0+1,Gk,rfl,by first|rfl|go_num,aa,aa,HK⟩
   go_wp2_with fail;go_roundg (5-(j0+1))
   case measure=>omega
   case rel=>exact⟨i,j0+1,G3,rfl,by first|rfl|go_num,aa,aa,H3⟩
  have aji:¬(j0:Int)<5:=aa;go_wp2;go_ret;exact⟨false,rfl,Gk,HK.o⟩
open Go.Sort
def Vq (s x:Nat)(hx:x<18446744073709551616)(w:acL)(h:aD w s 236 #[.int .u64 x]) :
  ac4 prog 179 #[.pointer (some ⟨s,0,none⟩)] w λe w'=>∃y:Nat,y<18446744073709551616/\e=ab4 (.int .u64 y)/\aD w' s 236 #[.int .u64 y]/\aP (λk=>k=s) w w':=by
 refine(calls_of_every_depth λD=>AnyS.xorshift_NextIn laysNext D s 0 x hx w (h.cell 0) (h.frozen 0)).mono ?_;rintro e w' ⟨rfl,rfl⟩;have hl:xorNextN x<18446744073709551616:=by
  have lA:x ^^^ (x*8192%18446744073709551616)<18446744073709551616:=Nat.xor_lt_two_pow (n:=64) hx aa;have lB:=Nat.xor_lt_two_pow (n:=64) lA (show (x ^^^ (x*8192%18446744073709551616))/128<2 ^ 64 by omega);exact Nat.xor_lt_two_pow (n:=64) lB aa
 exact⟨_,hl,rfl,h.bB 0 _,⟨rfl,rfl,rfl,by simp[acL.drewN],λk hk hn=>acN.heap_setCell w _ _ k (λe=>hn e)⟩⟩
def Yx (l:Nat)(hl:1<=l/\l<1000000)(w:acL) :
  ac4 prog 178 #[vi l] w λe w'=>∃m:Nat,1<=m/\m<=2*l/\e=ab4 (.int .u64 m)/\w'=w:=by
 refine(calls_of_every_depth λD=>AnyS.nextPowerOfTwoIn laysPow D l aa w).mono ?_;rintro e w' ⟨rfl,rfl⟩;refine⟨1 <<< bitsLen l,?_,?_,rfl,rfl⟩;rw[Nat.one_shiftLeft];exact Nat.one_le_two_pow;rw[Nat.one_shiftLeft];cases hk:bitsLen l with
 |zero=>simp;omega
 |succ k =>
  have h1:¬bitsLen l<=k:=aa;rw[bitsLen_le_iff]at h1;rw[Nat.pow_succ];omega
def acb (x m:Nat)(hx:x<18446744073709551616)(hm:1<=m/\m<18446744073709551616):∃z:Nat,z<m/\bits .and .u64 (x:Int) ((m:Int)-1)=(z:Int):=by
 refine⟨x &&& (m-1),?_,?_⟩;have:=Nat.and_le_right (n:=x) (m:=m-1);omega;rw[show ((m:Int)-1)=((m-1:Nat):Int) by omega];exact bits_and_u64_nat x (m-1) hx aa
def Yy (h:UR w g n G)(c a b:Nat)(hab:a+8<=b)(hb:b<=n)(hn:n<1000000) :
  ac4 prog 186 #[aco (some ⟨g,0,none⟩) n c,vi a,vi b] w (UP w g n G):=by
 obtain⟨l,hl⟩:∃l:Nat,(b:Int)-(a:Int)=l:=⟨b-a,aa⟩;obtain⟨q,hq⟩:∃q:Nat,(l:Int).tdiv 4=q:=⟨l/4,rfl⟩;have hq2:2<=q/\4*q<=l:=by
  have h1:(l:Int).tdiv 4=(l:Int)/4:=ae3 aa;rw[h1]at hq;omega
 obtain⟨i0,hi0⟩:∃i:Nat,(a:Int)+(q:Int)*2=i:=⟨a+q*2,aa⟩;obtain⟨i1,hi1⟩:∃i:Nat,(i0:Int)-1=i:=⟨i0-1,aa⟩;obtain⟨i2,hi2⟩:∃i:Nat,(i0:Int)+1=i:=⟨i0+1,aa⟩;have h8:(8:Int)<=(l:Int):=aa;have Dv:acS.u64.wrap (l:Int)=l:=by simp[acS.wrap,acS.bits,acS.signed];omega
 have hgw:g<w.heap.size:=h.lt;have H:=az h;clear h;go_in;go_upto_region 3 with fail;have hgs:g≠w.heap.size:=aa;have HK0:Hid (US w g n G (w.alloc (ach #[.int .u64 l] 236)) G/\aD (w.alloc (ach #[.int .u64 l] 236)) w.heap.size 236 #[.int .u64 l]) :=
  az ⟨(US.refl H.o).old ax,aD.new _ _ _⟩
 generalize w.alloc (ach #[.int .u64 l] 236)=w0 at*;obtain⟨s,hs⟩:∃s,w.heap.size=s:=⟨_,rfl⟩;rw[hs]at hgs HK0 ⊢;have DC:=az hs;clear hs;go_upto_block 0 with (go_at_call 178;refine(Yx l aa _).mono ?_;rintro e w1 ⟨m,hm1,hm2,rfl,rfl⟩);go_wp2_with fail;go_loopg [9] (i2+1-i1) (λk v wr=>∃(i x:Nat) (Gk:Nat->Nat),v=vi i/\(i1<=i/\i<=i2+1)/\i2+1-i<=k/\x<18446744073709551616/\Hid (US w g n G wr Gk/\aD wr s 236 #[.int .u64 x]))
 case atStart=>exact⟨i1,l,G,rfl,aa,aj,aa,HK0⟩
 case round =>
  obtain⟨i,x,Gk,rfl,hbd,hk,hx,HK⟩:=hrel;by_cases hi:i<=i2
  ·have hii:(i:Int)<=(i2:Int):=aa;have hmw:acS.u64.wrap ((m:Int)-1)=(m:Int)-1:=by simp[acS.wrap,acS.bits,acS.signed];omega
   have iH:=az (Vq s x hx _ HK.o.2);go_upto_region 7 with fail;go_cut [10] from 26 to 64 (λv wx=>∃(z y:Nat),v=vi z/\z<m/\y<18446744073709551616/\Hid (US w g n G wx Gk/\aD wx s 236 #[.int .u64 y]))
   case first =>
    go_wp2_with (go_at_call 179;refine iH.o.mono ?_;rintro e w2 ⟨y,hy,rfl,hb2,hc2⟩;obtain⟨z,hz,hzz⟩:=acb y m hy aa;have aoc:adk.wrap (z:Int)=z:=adl _ aa);go_meet;refine⟨z,y,rfl,hz,hy,az ⟨?_,hb2⟩⟩;exact HK.o.1.far hgw hc2 (λk e=>by have:=DC.o;omega)
   case rest =>
   obtain⟨z,y,rfl,hz,hy,H2⟩:=hcut;generalize wc=w2 at*;clear HK iH hmw;go_upto_if 43 with fail;go_cut [10] from 26 to 64 (λv wx=>∃o:Nat,v=vi o/\o<l/\Hid (US w g n G wx Gk/\aD wx s 236 #[.int .u64 y]))
   case first =>
    by_cases hzl:l<=z
    ·go_wp2;go_meet;exact⟨z-l,by congr 1;omega,aa,H2⟩
    go_wp2;go_meet;exact⟨z,rfl,aa,H2⟩
   case rest =>
   obtain⟨o,rfl,ho,H3⟩:=hcut;generalize wc=w3 at*;clear H2;go_upto_region 10 with fail;have qi:(i:Int)<(n:Int):=aa;have pw:adk.wrap ((a:Int)+(o:Int))=(a:Int)+(o:Int):=adl _ aa;have p0:(0:Int)<=(a:Int)+(o:Int):=aa;have pn:(a:Int)+(o:Int)<(n:Int):=aa;have pt:((a:Int)+(o:Int)).toNat=a+o:=aa;obtain⟨Qe,cie⟩:∃v,Gk i=v:=⟨_,rfl⟩;have ci:w3.cell? ⟨g,i,none⟩=some (vw Qe):=by rw[<-cie];exact H3.o.1.row.cell aa
   have lH:=az cie;clear cie;obtain⟨Qf,cj,lI⟩:=H3.o.1.row.kn (a+o) aa;obtain⟨sv,hs⟩:=H3.o.1.row.Jz i Qf (t:=a+o) aa;have f1:=H3.o.1.row.frozen i;have f2:=H3.o.1.row.frozen (a+o);go_region;all_goals
    go_wp2_with fail;go_roundg (i2+1-(i+1))
    case measure=>omega
    case rel=>exact⟨i+1,y,swp Gk i (a+o),by first|rfl|go_num|(congr 1;omega),aa,aj,hy,az ⟨by rw[<-lH.o,<-lI.o];exact(H3.o.1.drewN _).swap aa aa,((show aD (w3.drewN _) s 236 #[.int .u64 y] from H3.o.2).far (p:=⟨g,i,none⟩) (λe=>hgs e.symm) _).far (p:=⟨g,a+o,none⟩) (λe=>hgs e.symm) _⟩⟩
  have hii:¬(i:Int)<=(i2:Int):=aa;go_wp2_with fail;go_end0;exact⟨rfl,Gk,HK.o.1⟩
end us
end Go.Proofs.YtllmbcigmimgoaaGreat
