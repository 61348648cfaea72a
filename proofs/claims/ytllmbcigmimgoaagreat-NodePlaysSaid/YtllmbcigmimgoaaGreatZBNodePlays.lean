/-
  NodePlays: whatever is written to, cut off and read of some files of a pool comes to what the document says. No conditions.
-/
import Derived.Test.YtllmbcigmimgoaaGreatZB17
set_option maxRecDepth 100000
set_option maxHeartbeats 20000000
set_option linter.all false
namespace Go.Proofs.YtllmbcigmimgoaaGreat
open _root_.Go.Proofs.Tryz
open _root_.Go.Act renaming put->afD
namespace nodePlays
open ChangeShapes WideShapes ChangeAt RowKit Deep
open mgr ft ino po df lw
theorem walk (n:Int)(y:qB eQ)(w:World)(hy:fe w.heap.size w y.a y.l):Calls prog 6 #[vi n,y.v] w λe w'=>e=.returned (.bool true)/\Below w.heap.size w w':=by
 obtain⟨ya,l,yc⟩:=y;have HL:=az hy;dsimp only at HL;change Calls prog 6 #[vi n,.slice ya l.length yc] w _;clear hy;go_in;go_wp2_with fail;refine(ru yc HL.o).mono ?_;rintro e1 w1 ⟨t,rfl,rfl,hs⟩;cases t
 ·have hlen:l.length<=500:=by have h:=hs rfl;have:=Fu l;omega
  have HLEN:=az hlen;clear hs hlen;go_wp2_with fail;refine(sH w1.heap.size n w1 aj).mono ?_;rintro e2 w2 ⟨P,q,K,hP,rfl,hpq,hb2,hlow⟩;have HB2:=az hb2;have zU:=az hpq;have AR:=az hP;have H1:=az (fu q rI rD);clear hpq hb2 hlow hP;go_upto_region 4 with (refine fU (C:=aO q rI rD) rfl rfl (.tmp 5) (.tmp 16) rfl rfl rfl rfl H1.o ?_;intro w4 hb4 hl4;have nJ:=az hb4;have uf:=az hl4;clear hb4 hl4);have iH:Hid (¬KQ K q w2.heap.size):=az (λe=>by
   rcases e with e|e
   have:=zU.o.lt _ e;omega
   have:=zU.o.JV;omega)
  have HXB:Hid (w1.heap.size<=w2.heap.size):=az HB2.o.size;have CO:Hid (Bo w1 q w2.heap.size w2.heap.size 0 w4):=az ⟨K,_,_,_,_,_,_,On.begin AR.o (zU.o.old uf.o) (HB2.o.trans (uf.o.mono HB2.o.size)) (λn e=>by rw[e];exact nJ.o.lt),nJ.o,iH.o,⟨_,nJ.o⟩,iH.o⟩;obtain⟨x,hx⟩:∃x,x=w2.heap.size:=⟨_,rfl⟩;rw[<-hx]at CO HXB ⊢;clear hx uf HB2 nJ iH zU AR H1;go_wp2_with fail;go_loopw [7] (λv7 wr=>∃k:Nat,v7=vi k/\k<=l.length/\Hid (Bo w1 q x x k wr)) (λk _=>l.length-(intOf k).toNat)
  case atStart=>exact⟨0,rfl,Nat.zero_le _,CO⟩
  case round =>
   obtain⟨k,rfl,hkl,hin⟩:=hrel;obtain⟨K3,p,is,Fs,D,a,e,hst⟩:=hin.o;have eX:=az hst;clear hin hst CO;by_cases hk:k<l.length
   ·have n1:(k:Int)<(l.length:Int):=aa;obtain⟨b,o0,rfl,hcl,hok⟩:=JO (eX.o.1.ops HL.o) hk;have r2:IntKind.i64.wrap ((k:Int)+1)=((k+1:Nat):Int):=by have:=HLEN.o;rw[IntWalk.i64_in _ aa];omega
    have Mo:=az (eX.o.1.old (Below.refl _ wr).drew);have HO0:Hid (fe w1.heap.size wr.drew (some ⟨b,o0,none⟩) l):=az (Mo.o.ops HL.o);have HX0:Hid (aD wr.drew x 37 (aI (aO q is D))):=az eX.o.2.1;have HNZ:Hid (¬KQ K3 q wr.drew.heap.size):=az (λe=>by have:=Mo.o.run.ZW _ e;omega);have Yq:Hid (w1.heap.size<=wr.heap.size/\x≠wr.heap.size):=az ⟨Mo.o.dW.size,by have:=HX0.o.lt;exact Nat.ne_of_lt this⟩;obtain⟨o,ho⟩:∃o,o=l.getD k default:=⟨_,rfl⟩;rw[<-ho]at hcl hok;have aae:Hid (Calls prog 17 #[.agg (aI (aO q is D)),.agg o.cs.toArray] wr.drew (CL w1 wr.drew q K3 is Fs k (λn=>n=x) (file3 o.file))):=az (by
     have h1:=HLEN.o
     exact Mo.o.step aa o (hok.old (Below.refl _ wr).drew))
    have aaf:Hid (∀cs:Array Value,Calls prog 17 #[.agg (aI (aO q is D)),.agg o.cs.toArray] (wr.drew.alloc (.cells cs 37)) (CL w1 (wr.drew.alloc (.cells cs 37)) q K3 is Fs k (λn=>n=x\/n=wr.heap.size) (file3 o.file))):=az (λcs=>by
     have h1:=HLEN.o
     have hal:Below wr.drew.heap.size wr.drew (wr.drew.alloc (.cells cs 37)):=ax
     exact(Mo.o.more hal (z:=wr.heap.size) aj (by rw[size_alloc];exact Nat.lt_succ_self _)).step aa o ((hok.old (Below.refl _ wr).drew).old hal))
    clear ho hok;obtain⟨aL,file,aF,nn,ba,bl,bc⟩:=o;dsimp only at hcl;have afF:Hid (Calls prog 17 #[.agg (aI (aO q is D)),.agg #[vi aL,vi file,vi aF,vi nn,.slice ba bl.length bc]] wr.drew (CL w1 wr.drew q K3 is Fs k (λn=>n=x) (file3 file))):=az aae.o;have afG:Hid (∀cs:Array Value,Calls prog 17 #[.agg (aI (aO q is D)),.agg #[vi aL,vi file,vi aF,vi nn,.slice ba bl.length bc]] (wr.drew.alloc (.cells cs 37)) (CL w1 (wr.drew.alloc (.cells cs 37)) q K3 is Fs k (λn=>n=x\/n=wr.heap.size) (file3 file))):=az aaf.o;have jU:=az hk;clear aae aaf hk hkl;go_upto_region 9 with fail
    go_cut [8,9] from 26 to 42 (λv8 v9 wx=>∃z,v8=ptr z/\v9=.bool true/\Hid (Bo w1 q x z (k+1) wx))
    case first =>
     refine wp_region_held_drew (S:=λW'=>fe w1.heap.size W' (some ⟨b,o0,none⟩) l/\aD W' x 37 (aI (aO q is D))) ah (⟨HO0.o,HX0.o⟩) (λhHeld=>?_);change wpAnyH _ _ _ _ _ 12 #[false,false,false,false,false,false,false,false,false,false,false,false] _ wr.drew;refine tkr 0 (.tmp 5) (λ_ h=>h.2) ?_;simp only[ay,afD];refine tk 1 ?_;simp only[ay,afD];refine tk 2 ?_;simp only[ay,afD]
     refine tk 3 ?_;simp only[ay,afD];refine tk 4 ?_;simp only[ay,afD];refine rd2 5 9 (λK hK=>?_) (λK hK=>?_)
     ·go_simp;go_at_call 17;refine afF.o.mono ?_;rintro e2 w2 ⟨K2,p2,QM,Fs2,D2,a2,e3,rfl,hon,hg,hj⟩;have lM:=az (hg.blk HX0.o eX.o.2.2.1);have JP:=az hon;have yz:=az (hon.ops HL.o);clear hon hg hj;go_wp2_with fail;refine hK.out _ _ (⟨yz.o,lM.o.1⟩) (λ_=>?_);clear hK K;simp only[ay,afD];refine tk 6 ?_;simp only[ay,afD];refine tk 7 ?_;simp only[ay,afD];refine tk 8 ?_;simp only[ay,afD]
      refine rW 9 λK hK=>?_
      go_simp;refine hK.out _ _ (⟨(JP.o.old ax).ops HL.o,lM.o.1.alloc _⟩) (λ_=>?_);clear hK K;simp only[ay,afD];refine rW 10 λK hK=>?_
      refine CP (C:=aO q QM D2) rfl rfl (.tmp 8) (.tmp 33) rfl rfl rfl rfl (fu q QM D2) ?_;intro w3 hb3 hl3;have HM:Hid (Bo w1 q x w2.heap.size (k+1) w3):=az ⟨K2,p2,QM,Fs2,D2,a2,e3,JP.o.old hl3,hb3,λe=>by have:=JP.o.run.ZW _ e;omega,⟨_,lM.o.1.old hl3⟩,lM.o.2⟩;have DU:=az (JP.o.old hl3);have qF:=az (lM.o.1.old hl3);clear hb3 hl3;refine hK.out _ _ (⟨DU.o.ops HL.o,qF.o⟩) (λ_=>?_);clear hK K;simp only[ay,afD];refine rW 11 λK hK=>?_
      go_simp;refine hK.out _ _ (⟨DU.o.ops HL.o,qF.o⟩) (λ_=>?_);clear hK K;simp only[ay,afD];refine wpAnyH_done ah ?_ _;clear hHeld;go_wp2;go_meet;exact⟨_,rfl,rfl,HM⟩
     go_simp;refine hK.out _ _ (⟨(Mo.o.old ax).ops HL.o,HX0.o.alloc _⟩) (λ_=>?_);clear hK K;simp only[ay,afD];refine rW 5 λK hK=>?_
     go_simp;go_at_call 17;refine(afG.o _).mono ?_;rintro e2 w2 ⟨K2,p2,QM,Fs2,D2,a2,e3,rfl,hon,hg,hj⟩;have lM:=az (hg.blk (HX0.o.alloc _) eX.o.2.2.1);have HZ2:=az (hg.blk (aD.new wr.drew 37 _) HNZ.o);have JP:=az hon;have yz:=az (hon.ops HL.o);clear hon hg hj;go_wp2_with fail;refine hK.out _ _ (⟨yz.o,lM.o.1⟩) (λ_=>?_);clear hK K;simp only[ay,afD];refine tk 6 ?_;simp only[ay,afD];refine tk 7 ?_;simp only[ay,afD]
     refine tk 8 ?_;simp only[ay,afD];refine rW 10 λK hK=>?_
     refine uJ (C:=aO q QM D2) rfl (.tmp 8) (.tmp 33) rfl rfl rfl HZ2.o.1 rfl (fu q QM D2) ?_;intro w3 hb3 hc3;have DU:=az ((JP.o.jg HZ2.o.1 (.inr rfl) HZ2.o.2 Yq.o.1 hc3).less (Z':=λn=>n=x) (λn e=>.inl e));have qF:=az (lM.o.1.aJ hc3 Yq.o.2);have HM:Hid (Bo w1 q x wr.heap.size (k+1) w3):=az ⟨K2,p2,QM,Fs2,D2,a2,e3,DU.o,hb3,HZ2.o.2,⟨_,qF.o⟩,lM.o.2⟩;clear hb3 hc3;refine hK.out _ _ (⟨DU.o.ops HL.o,qF.o⟩) (λ_=>?_);clear hK K;simp only[ay,afD];refine rW 11 λK hK=>?_
     go_simp;refine hK.out _ _ (⟨DU.o.ops HL.o,qF.o⟩) (λ_=>?_);clear hK K;simp only[ay,afD];refine wpAnyH_done ah ?_ _;clear hHeld;go_wp2;go_meet;exact⟨_,rfl,rfl,HM⟩
    case rest =>
    obtain⟨z,rfl,rfl,hm⟩:=hcut;obtain⟨K4,p4,is4,Fs4,D4,a4,e4,hm⟩:=hm.o;have HM:=az hm;have lX:=az (JI HM.o.1.run);have HZ:=az HM.o.2.1;clear hm eX Mo HO0 HX0 HNZ Yq afF afG hcl;go_wp2_with (refine zh (by rfl) (.tmp 8) rfl rfl HZ.o ?_);refine lX.o.mono ?_;rintro e5 w5 ⟨K5,rfl,hrd⟩;have ajL:=az (HM.o.1.go hrd);have HZ5:=az ((gF.fA hrd.go).blk HM.o.2.1 HM.o.2.2.1);obtain⟨C,hC⟩:=HM.o.2.2.2.1;have xR:=az ((gF.fA hrd.go).blk hC HM.o.2.2.2.2);have H1:=az (fu q is4 D4);clear hrd hC lX HM HZ;go_upto_region 12 with fail;go_upto_region 8 with (first|(refine mq rfl (.tmp 8) rfl rfl HZ5.o.1 ?_)|(refine uI (C:=aO q is4 D4) rfl (.tmp 5) (.tmp 42) rfl rfl rfl xR.o.1 rfl H1.o ?_;intro w6 hb6 hc6;have HF:Hid (Bo w1 q x x (k+1) w6):=az ⟨K5,p4,is4,Fs4,D4,a4,e4,ajL.o.jg xR.o.1 rfl xR.o.2 HXB.o hc6,hb6,xR.o.2,⟨_,hb6⟩,xR.o.2⟩;clear hb6 hc6))
    go_wp2;go_roundw
    case rel=>exact⟨k+1,by first|rfl|trivial|go_num|(congr 1;omega),jU.o,HF⟩
    case measure=>have:=jU.o;simp[intOf];omega
   obtain rfl:k=l.length:=aa;have n1:¬((l.length:Nat):Int)<(l.length:Int):=aa;have HBE:=az eX.o.1.dW;go_wp2_with fail;refine(jB _).mono ?_;rintro e6 w6 ⟨rfl,hb6⟩;have uC:=az (HBE.o.trans (hb6.mono HBE.o.size));clear hb6;go_wp2;go_ret;exact⟨rfl,uC.o⟩
 go_wp2_with fail;refine(jB _).mono ?_;rintro e2 w2 ⟨rfl,hb⟩;have HB:=az hb;clear hb;go_wp2;go_ret;exact⟨rfl,HB.o⟩
theorem lifted (os:Os)(started:os.Started)(H:Type)(enc:TypeId×Value->H) :
  ReturnsInHanded {} checked os 6 .any (Rows.nodePlaysSpec.pre6 enc prog Tryz.f6 Rows.nodePlaysRow.domain false) (Rows.nodePlaysSpec.post enc prog Tryz.f6 false true false false):=by
 refine returnsInHanded_of_change_sized (C:=checked) own started ah func6
  (ChangeSpec.witness6 (enc:=enc) (C:=checked) false ⟨#[],#[.int .i64 0,.slice none 0 0],[]⟩ 8 ah ah ah ah) ?_
 intro W aA args ds gs before hval0 hW hcnd hwt _;have hval:∀(j:Nat) t v,Tryz.f6.params[j]?=some t->args[j]?=some v->Value.okWide prog W .any aA t v:=hval0;have hW':=hW;obtain⟨p,q,JY,hV,rfl,hfz,hnd⟩:=hW;have hA:DataW.TrodAll enc prog W 0 (λ_=>true) true Tryz.f6.params.toList args.toList ds p:=JY;rw[params6]at hA hval hwt;obtain⟨v0,vs0,d0,ds0,p0,q0,hargs,rfl,rfl,h0,r0⟩:=trodAll_cons hA;obtain⟨v1,vs1,d1,ds1,p1,q1,rfl,rfl,rfl,h1,r1⟩:=trodAll_cons r0;obtain⟨rfl,rfl,rfl⟩:=trodAll_nil r1;obtain rfl:args=#[v0,v1]:=by cases args;simp_all
 obtain⟨rfl,rfl⟩:=trodVars_none hV;obtain⟨a0,rfl,rfl,rfl,w0⟩:=open_int underlying3 (hval 0 3 v0 rfl rfl) h0;obtain⟨x1,rfl,hx1⟩:=lw.sN h1 (hval 1 22 v1 rfl rfl) (jZ hwt (j:=1) rfl rfl);refine(walk a0 x1 W hx1).mono λe W' ⟨he,dW⟩=>?_
 subst he;exact⟨_,rfl,tX laidOut ah hW' rfl dW rfl underlying4 rfl⟩
theorem facts:joinedFacts Tryz.pinned.checked.prog 6 Tryz.f6 Rows.nodePlaysSpec Rows.nodePlaysRow=true:=by
 unfold joinedFacts;simp only[Bool.and_eq_true];and_intros;all_goals as_aux_lemma=>kernel_rfl
theorem over:Rows.nodePlaysRow.holds Tryz.pinned (OpenSpec.ofChange Rows.nodePlaysSpec) :=
 OpenClaim.holds_of_wide 6 Tryz.f6 rfl rfl rfl rfl rfl rfl rfl ⟨rfl,rfl,rfl,rfl,rfl⟩ rfl rfl rfl rfl rfl ah func6 facts
  (of_decide_eq_true ah) (by unfold Func.isWrapper;first|(rw[if_pos (by decide +kernel)];kernel_rfl)|(rw[if_neg (by decide +kernel)];exact⟨rfl,rfl⟩))
  (λos started H enc _=>lifted os started H enc)
theorem proved:Rows.NodePlaysSaid:=over
#print axioms proved
end nodePlays
end Go.Proofs.YtllmbcigmimgoaaGreat
