/- Our own texts of this seat. -/
import Derived.Test.YtpdanklncjopoaaYI2
import Derived.Lib.ItoaLen
import Derived.Lib.ItoaNum
import Derived.Lib.Join
set_option linter.unusedSimpArgs false
set_option linter.unusedVariables false
set_option maxRecDepth 100000
set_option maxHeartbeats 1000000
namespace Go.Proofs.Ytpdanklncjopoaa
open Go.RowKit Go.Abs Go.Proofs.Try
theorem Ai {v0:O uA} {r:Head×(O uA)×Int} (H:mQ v0=some r):aB prog 59 [ag 1 cq v0] (·=.dp [.agg (Head.row r.1),ag 1 cq r.2.1,cI r.2.2]):=by
 obtain ⟨i3,ji,rL,mc,Fp⟩:=u3
 obtain ⟨i90,xa,Aj,IP,QN⟩:=Hj
 refine aB.aS func59 rfl ntmps59 rfl λS hS=>?_
 unfold mQ at H
 obtain ⟨y1,dI,H⟩:=af H
 refine .A 24 [.r 0,.d (.dp [ag 1 cq y1.1,ag 1 cq y1.2.1,cI y1.2.2])] rfl (ax (en 35 rfl) rfl rfl (oR dI)) (.ite H rfl (λH=>?_) (λH=>?_))
 ·refine .A 8 [.d (.agg (Head.row (⟨0,0,0,0⟩:Head)))] rfl (az.g (aK AV xa Aj rfl rfl)) (.R func59 results59 rfl ?_)
  cases H
  exact .m rfl (.eP ⟨.av _,.nil 1,.av _,trivial⟩)
 ·obtain ⟨y2,gN,H⟩:=af H
  refine .A 17 [.d (.dp [ag 1 rI y2.1,cI y2.2])] rfl (ax (en 36 rfl) rfl rfl (vn gN)) (.ite H rfl (λH=>?_) (λH=>?_))
  ·refine .A 8 [.d (.agg (Head.row (⟨0,0,0,0⟩:Head)))] rfl (az.g (aK AV xa Aj rfl rfl)) (.R func59 results59 rfl ?_)
   cases H
   exact .m rfl (.eP ⟨.av _,.nil 1,.av _,trivial⟩)
  ·obtain ⟨cA,H⟩:=ab H
   obtain ⟨cP,H⟩:=ab H
   obtain ⟨dD,H⟩:=ab H
   obtain ⟨y3,mA,H⟩:=af H
   refine .A 22 [.p 11,.d (.ro (rI (nth y2.1 (Int.toNat (0))))),.d (.ro (rI (nth y2.1 (Int.toNat (1))))),.d (.ro (rI (nth y2.1 (Int.toNat (2))))),.i y3] rfl ⟨ax (en 37 rfl) rfl rfl (vo mA),jq.ix rfl rfl rfl dD,jq.ix rfl rfl rfl cP,jq.ix rfl rfl rfl cA,(show _=true by kernel_rfl)⟩ (.ite H rfl (λH=>?_) (λH=>?_))
   ·refine .A 8 [.d (.agg (Head.row (⟨0,0,0,0⟩:Head)))] rfl (az.g (aK AV xa Aj rfl rfl)) (.R func59 results59 rfl ?_)
    cases H
    exact .m rfl (.eP ⟨.av _,.nil 1,.av _,trivial⟩)
   ·obtain ⟨dY,H⟩:=ab H
    obtain ⟨fh,H⟩:=ab H
    refine .A 15 [.d (.ro (rI (nth y2.1 (Int.toNat (3))))),.d (.ro (rI (nth y2.1 (Int.toNat (3)))))] rfl ⟨rfl,rfl,rfl,λhg=>jq.ix rfl rfl rfl (fh hg),rfl,jq.ix rfl rfl rfl dY⟩ (.ite H rfl (λH=>?_) (λH=>?_))
    ·refine .A 7 [.d (.agg (Head.row (⟨0,0,0,0⟩:Head)))] rfl (az.g (aK AV xa Aj rfl rfl)) (.R func59 results59 rfl ?_)
     cases H
     exact .m rfl (.eP ⟨.av _,.nil 1,.av _,trivial⟩)
    ·refine .E 2 rfl ?_
     obtain ⟨gM,H⟩:=ab H
     obtain ⟨jX,H⟩:=ab H
     obtain ⟨mb,H⟩:=ab H
     obtain ⟨pM,H⟩:=ab H
     refine .xo 15 14 [⟨[.row 90 [.d (cI 0),.d (cI 0),.d (cI 0),.d (cI 0)]],[]⟩,⟨[.row 90 [.d (cI (nth y2.1 (Int.toNat (0)))),.d (cI (nth y2.1 (Int.toNat (1)))),.d (cI (nth y2.1 (Int.toNat (2)))),.d (cI (nth y2.1 (Int.toNat (3))))]],[]⟩] wa (by kernel_rfl) (by decide) rfl ?_
     show nd _ _ _ _ _ _ _ _ _ _ (_::_) _ _
     refine .G (x:=.d (ag 1 rI y2.1)) 0 0 ⟨az.g (cg rfl),trivial⟩ rfl rfl (.G (x:=.d (.ro (rI (nth y2.1 (Int.toNat (0)))))) 0 0 ⟨az.g (dF (row:=rI) (l:=y2.1) (i:=0) underlying100 ji mc rfl rfl rfl gM),trivial⟩ rfl rfl (.G (x:=.d (cI (nth y2.1 (Int.toNat (0))))) 0 0 ⟨az.g (dN g9 rfl),trivial⟩ rfl rfl (.G (x:=.d (ag 1 rI y2.1)) 0 0 ⟨az.g (cg rfl),trivial⟩ rfl rfl (.G (x:=.d (.ro (rI (nth y2.1 (Int.toNat (1)))))) 0 0 ⟨az.g (dF (row:=rI) (l:=y2.1) (i:=1) underlying100 ji mc rfl rfl rfl jX),trivial⟩ rfl rfl (.G (x:=.d (cI (nth y2.1 (Int.toNat (1))))) 0 0 ⟨az.g (dN g9 rfl),trivial⟩ rfl rfl (.G (x:=.d (ag 1 rI y2.1)) 0 0 ⟨az.g (cg rfl),trivial⟩ rfl rfl (.G (x:=.d (.ro (rI (nth y2.1 (Int.toNat (2)))))) 0 0 ⟨az.g (dF (row:=rI) (l:=y2.1) (i:=2) underlying100 ji mc rfl rfl rfl mb),trivial⟩ rfl rfl (.G (x:=.d (cI (nth y2.1 (Int.toNat (2))))) 0 0 ⟨az.g (dN g9 rfl),trivial⟩ rfl rfl (.G (x:=.d (ag 1 rI y2.1)) 0 0 ⟨az.g (cg rfl),trivial⟩ rfl rfl (.G (x:=.d (.ro (rI (nth y2.1 (Int.toNat (3)))))) 0 0 ⟨az.g (dF (row:=rI) (l:=y2.1) (i:=3) underlying100 ji mc rfl rfl rfl pM),trivial⟩ rfl rfl (.G (x:=.d (cI (nth y2.1 (Int.toNat (3))))) 0 0 ⟨az.g (dN g9 rfl),trivial⟩ rfl rfl (.G (x:=.d (.agg (Head.row (⟨nth y2.1 (Int.toNat (0)),nth y2.1 (Int.toNat (1)),nth y2.1 (Int.toNat (2)),nth y2.1 (Int.toNat (3))⟩:Head)))) 0 0 ⟨az.g (aK AV xa Aj rfl rfl),trivial⟩ rfl rfl (.G (x:=.d (ag 1 cq y1.2.1)) 0 1 ⟨az.g (cg rfl),az.g (cg rfl),trivial⟩ rfl rfl (.u 0 (qJ rfl rfl rfl rfl (Nat.le_of_ble_eq_true rfl) SQ) rfl rfl rfl rfl (.nil rfl ?_)))))))))))))))
     show cn _ _ _ _ _ _ (_::_) _ _ _
     refine .E 3 rfl (.R func59 results59 rfl ?_)
     cases H
     exact .m rfl (.cZ rfl)
theorem Ak {bg:O uA} {r:(O (O uA))×Int} (H:mR bg=some r):aB prog 90 [cS bg] (·=.dp [ag 1 rS r.1,cI r.2]):=by
 obtain ⟨i9,MB,QG,MC,Vr⟩:=KH
 refine aB.aS func90 rfl ntmps90 rfl λS hS=>?_
 unfold mR at H
 obtain ⟨cA,H⟩:=ab H
 obtain ⟨cP,H⟩:=ab H
 refine .A 19 [.i (bg.length:Int),.i ((bg.length:Int) - 1),.c (nth bg ((bg.length:Int) - 1).toNat),.b ((nth bg ((bg.length:Int) - 1).toNat) != 10)] rfl ⟨rfl,λhg=>az.g (yd (a:=nth bg ((bg.length:Int) - 1).toNat) (b:=10) rfl rfl),rfl,λhg=>az.g (ew (i:=(bg.length:Int) - 1) underlying9 rfl rfl (cP hg)),rfl,rfl,λhg=>gZ rfl rfl (cA hg),rfl,λhg=>az.g (ik underlying9 rfl),rfl⟩ (.ite H rfl (λH=>?_) (λH=>?_))
 ·refine .E 5 rfl (.R func90 results90 rfl ?_)
  cases H
  exact .m rfl (.eP ⟨.nil 1,.av _,trivial⟩)
 ·refine .E 14 rfl (.tok (i:=4) (e:=9) (sz:=1) rfl (.bw (ι:=O (O uA)) (λnB=>[(4,.bX 1 (nB.map rS) 0)]) (λnB=>⟨[],[DT nB.length]⟩) (λs=>eU s=some r) ?_ ?_))
  ·rintro nB H
   replace H:eU nB=some r:=H
   unfold eU at H
   refine .A 7 [.i (nB.length:Int)] rfl (gC.n rfl rfl) (.ite H rfl (λH=>?_) (λH=>?_))
   ·refine .E 5 rfl (.R func90 results90 rfl ?_)
    cases H
    exact .m rfl (.eP ⟨.nil 1,.av _,trivial⟩)
   ·refine .E 7 rfl (.R func90 results90 rfl ?_)
    cases H
    exact .m rfl (.eP ⟨.bX _ _ _,.av _,trivial⟩)
  ·intro ly eF
   refine .lp H (λ⟨kB,gF,bk⟩=>[(0,.d (cS bg)),(4,.bX 1 (kB.map rS) 0),(5,.d (cI gF)),(6,.d (cI bk))]) (λ⟨kB,gF,bk⟩=>⟨[],[DT kB.length]⟩) (.k4 rfl rfl rfl rfl (.nil)) rfl ?_
   rintro ⟨kB,gF,bk⟩ q1 H bt
   dsimp only at H
   unfold kA at H
   refine .A 8 [.i (bg.length:Int)] rfl (az.g (ik underlying9 rfl)) (.ite H rfl (λH=>?_) (λH=>?_))
   ·obtain ⟨dD,H⟩:=ab H
    refine .A 10 [.c (nth bg bk.toNat),.b ((nth bg bk.toNat)==10)] rfl ⟨az.g (vU (a:=nth bg bk.toNat) (b:=10) rfl rfl),az.g (ew (i:=bk) underlying9 rfl rfl dD)⟩ (.ite H rfl (λH=>?_) (λH=>?_))
    ·obtain ⟨dY,H⟩:=ab H
     obtain ⟨fh,H⟩:=ab H
     obtain ⟨gM,H⟩:=ab H
     obtain ⟨jX,H⟩:=ab H
     refine .A 22 [.s ((bg.take bk.toNat).drop gF.toNat),.d (ag 1 rS ([(bg.take bk.toNat).drop gF.toNat]:O (O uA))),.a 0 9 1 rS (kB++([(bg.take bk.toNat).drop gF.toNat]:O (O uA))),.i (bk+1),.i (bk+1)] rfl ⟨ay rfl rfl jX,ay rfl rfl gM,gC.a rfl rfl rfl rfl fh,aC underlying136 MB MC QG rfl rfl rfl rfl rfl,az.g (yf underlying9 rfl rfl rfl dY)⟩ ?_
     cases H
     exact .z bt rfl rfl
    ·obtain ⟨mb,H⟩:=ab H
     refine .A 7 [.i (bk+1)] rfl (ay rfl rfl mb) ?_
     cases H
     exact .z bt rfl rfl
   ·refine .E 1 rfl ?_
    obtain ⟨q0,H9,lz⟩:=bK H;clear H;cases lz
    cases bt
    have H:=H9
    exact .z (eF kB H) rfl rfl
theorem Am {bg:O uA} {r:(O (O uA))} (H:mS bg=some r):aB prog 106 [cS bg] (·=ag 1 rS r):=by
 obtain ⟨i9,MB,QG,MC,Vr⟩:=KH
 refine aB.aS func106 rfl ntmps106 rfl λS hS=>?_
 unfold mS at H
 refine .E 18 rfl (.tok (i:=3) (e:=9) (sz:=1) rfl (.lp H (λ⟨mr,gG,ak⟩=>[(0,.d (cS bg)),(3,.bX 1 (mr.map rS) 0),(4,.d (cI gG)),(5,.d (cI ak))]) (λ⟨mr,gG,ak⟩=>⟨[],[DT mr.length]⟩) (.k4 rfl rfl rfl rfl (.nil)) rfl ?_))
 rintro ⟨mr,gG,ak⟩ q1 H bt
 dsimp only at H
 unfold kC at H
 refine .A 8 [.i (bg.length:Int)] rfl (az.g (ik underlying9 rfl)) (.ite H rfl (λH=>?_) (λH=>?_))
 ·obtain ⟨cA,H⟩:=ab H
  refine .A 16 [.i (bg.length:Int),.c (nth bg ak.toNat),.b ((nth bg ak.toNat)==32)] rfl ⟨rfl,λhg=>az.g (vU (a:=nth bg ak.toNat) (b:=32) rfl rfl),rfl,λhg=>az.g (ew (i:=ak) underlying9 rfl rfl (cA hg)),rfl,rfl,az.g (ik underlying9 rfl)⟩ (.ite H rfl (λH=>?_) (λH=>?_))
  ·obtain ⟨cP,H⟩:=ab H
   obtain ⟨dD,H⟩:=ab H
   obtain ⟨dY,H⟩:=ab H
   obtain ⟨fh,H⟩:=ab H
   refine .A 22 [.s ((bg.take ak.toNat).drop gG.toNat),.d (ag 1 rS ([(bg.take ak.toNat).drop gG.toNat]:O (O uA))),.a 0 9 1 rS (mr++([(bg.take ak.toNat).drop gG.toNat]:O (O uA))),.i (ak+1),.i (ak+1)] rfl ⟨ay rfl rfl fh,ay rfl rfl dY,gC.a rfl rfl rfl rfl dD,aC underlying136 MB MC QG rfl rfl rfl rfl rfl,az.g (yf underlying9 rfl rfl rfl cP)⟩ ?_
   cases H
   exact .z bt rfl rfl
  ·obtain ⟨gM,H⟩:=ab H
   refine .A 7 [.i (ak+1)] rfl (ay rfl rfl gM) ?_
   cases H
   exact .z bt rfl rfl
 ·refine .E 6 rfl (.R func106 results106 rfl ?_)
  cases H
  cases bt
  exact .m rfl (.bX _ _ _)
theorem Cg {bg:O uA} {r:Int} (H:oE bg=some r):aB prog 119 [cS bg] (·=cI r):=by
 refine aB.aS func119 rfl ntmps119 rfl λS hS=>?_
 unfold oE at H
 refine .E 15 rfl (.ite H rfl (λH=>?_) (λH=>?_))
 ·refine .E 4 rfl (.R func119 results119 rfl ?_)
  cases H
  exact .m rfl (.av _)
 ·refine .E 5 rfl (.ite H rfl (λH=>?_) (λH=>?_))
  ·refine .E 4 rfl (.R func119 results119 rfl ?_)
   cases H
   exact .m rfl (.av _)
  ·refine .E 5 rfl (.ite H rfl (λH=>?_) (λH=>?_))
   ·refine .E 4 rfl (.R func119 results119 rfl ?_)
    cases H
    exact .m rfl (.av _)
   ·refine .E 5 rfl (.ite H rfl (λH=>?_) (λH=>?_))
    ·refine .E 4 rfl (.R func119 results119 rfl ?_)
     cases H
     exact .m rfl (.av _)
    ·refine .E 6 rfl (.R func119 results119 rfl ?_)
     cases H
     exact .m rfl (.av _)
theorem fH {bg:O uA} {r:Int} (H:dU bg=some r):aB prog 120 [cS bg] (·=cI r):=by
 refine aB.aS func120 rfl ntmps120 rfl λS hS=>?_
 unfold dU at H
 obtain ⟨cA,H⟩:=ab H
 refine .B 23 [.i (bg.length:Int),.i (bg.length:Int),.c (nth bg (Int.toNat (0))),.b ((nth bg (Int.toNat (0)))==48),.i (bg.length:Int)] rfl ⟨rfl,λhg=>az.g (ik underlying9 rfl),rfl,rfl,λhg=>az.g (vU (a:=nth bg (Int.toNat (0))) (b:=48) rfl rfl),rfl,λhg=>az.g (ew (i:=0) underlying9 rfl rfl (cA hg)),rfl,rfl,rfl,λhg=>az.g (ik underlying9 rfl),rfl,az.g (ik underlying9 rfl)⟩ (.eN (env':=[(17,_),(20,_)]) rfl rfl rfl ⟨.inr (.inl rfl),⟨.inr (.inr ⟨_,_,rfl,rfl⟩),trivial⟩⟩ rfl (λhg=>az.g (cC rfl rfl rfl)) (.A 2 [] rfl rfl (.ite H rfl (λH=>?_) (λH=>?_))))
 ·refine .E 4 rfl (.R func120 results120 rfl ?_)
  cases H
  exact .m rfl (.av _)
 ·refine .E 11 rfl (.lp H (λ⟨bU,aq⟩=>[(0,.d (cS bg)),(3,.d (cI bU)),(4,.d (cI aq))]) (λ⟨bU,aq⟩=>⟨[],[]⟩) (.k3 rfl rfl rfl (.nil)) rfl ?_)
  rintro ⟨bU,aq⟩ q1 H bt
  dsimp only at H
  unfold kD at H
  refine .A 8 [.i (bg.length:Int)] rfl (az.g (ik underlying9 rfl)) (.ite H rfl (λH=>?_) (λH=>?_))
  ·obtain ⟨cP,H⟩:=ab H
   obtain ⟨dD,H⟩:=ab H
   refine .A 17 [.c (nth bg aq.toNat),.b (decide ((nth bg aq.toNat)<48)),.c (nth bg aq.toNat),.b (decide ((nth bg aq.toNat) > 57))] rfl ⟨rfl,λhg=>az.g (sg (a:=nth bg aq.toNat) (b:=57) rfl rfl),rfl,λhg=>az.g (ew (i:=aq) underlying9 rfl rfl (dD hg)),rfl,rfl,az.g (yc (a:=nth bg aq.toNat) (b:=48) rfl rfl),az.g (ew (i:=aq) underlying9 rfl rfl cP)⟩ (.ite H rfl (λH=>?_) (λH=>?_))
   ·refine .E 4 rfl (.R func120 results120 rfl ?_)
    cases H
    cases bt
    exact .m rfl (.av _)
   ·obtain ⟨dY,H⟩:=ab H
    obtain ⟨fh,H⟩:=ab H
    obtain ⟨gM,H⟩:=ab H
    obtain ⟨jX,H⟩:=ab H
    refine .A 18 [.i (bU*10),.c (nth bg aq.toNat),.c ((nth bg aq.toNat) - 48),.i (((nth bg aq.toNat) - 48).toNat:Int),.i ((bU*10)+(((nth bg aq.toNat) - 48).toNat:Int)),.i (aq+1)] rfl ⟨ay rfl rfl jX,ay rfl rfl gM,az.g (dw (a:=(nth bg aq.toNat) - 48) underlying5 underlying3 rfl),az.g (PU (a:=nth bg aq.toNat) (b:=48) rfl rfl),az.g (ew (i:=aq) underlying9 rfl rfl fh),ot rfl rfl dY⟩ ?_
    cases H
    exact .z bt rfl rfl
  ·refine .E 6 rfl (.R func120 results120 rfl ?_)
   cases H
   cases bt
   exact .m rfl (.av _)
theorem An {v0:O (O uA)} {r:aa×Bool} (H:mT v0=some r):aB prog 105 [ag 1 rS v0] (·=.dp [.agg (aa.row r.1),cB r.2]):=by
 obtain ⟨i153,cH,cW,eB,m5⟩:=jn
 refine aB.aS func105 rfl ntmps105 rfl λS hS=>?_
 unfold mT at H
 obtain ⟨cA,H⟩:=ab H
 obtain ⟨cP,H⟩:=ab H
 refine .A 30 [.r 0,.r 1,.i (v0.length:Int),.d (.ro (rS (nth v0 (Int.toNat (3))))),.i ((nth v0 (Int.toNat (3))).length:Int),.d (.ro (rS (nth v0 (Int.toNat (4))))),.i ((nth v0 (Int.toNat (4))).length:Int)] rfl ⟨rfl,rfl,λhg=>az.g (ik underlying9 rfl),rfl,rfl,λhg=>gC.ix rfl rfl rfl (cP hg),rfl,rfl,rfl,λhg=>az.g (ik underlying9 rfl),rfl,rfl,λhg=>gC.ix rfl rfl rfl (cA hg),rfl,gC.n rfl rfl⟩ (.ite H rfl (λH=>?_) (λH=>?_))
 ·refine .E 6 rfl (.R func105 results105 rfl ?_)
  cases H
  exact .m rfl (.cZ rfl)
 ·obtain ⟨dD,H⟩:=ab H
  obtain ⟨y1,dI,H⟩:=af H
  obtain ⟨dY,H⟩:=ab H
  obtain ⟨y2,gN,H⟩:=af H
  obtain ⟨fh,H⟩:=ab H
  obtain ⟨y3,mA,H⟩:=af H
  obtain ⟨gM,H⟩:=ab H
  obtain ⟨jX,H⟩:=ab H
  obtain ⟨mb,H⟩:=ab H
  obtain ⟨y4,vf,H⟩:=af H
  obtain ⟨pM,H⟩:=ab H
  obtain ⟨y5,Ad,H⟩:=af H
  refine .A 33 [.p 27,.d (.ro (rS (nth v0 (Int.toNat (0))))),.i y1,.d (.ro (rS (nth v0 (Int.toNat (1))))),.i y2,.d (.ro (rS (nth v0 (Int.toNat (2))))),.i y3,.d (.ro (rS (nth v0 (Int.toNat (3))))),.d (.ro (rS (nth v0 (Int.toNat (4))))),.d (.ro (rS (nth v0 (Int.toNat (5))))),.i y4,.d (.ro (rS (nth v0 (Int.toNat (6))))),.i y5,.d (.agg (aa.row (⟨y2,y3,y1,nth v0 (Int.toNat (3)),nth v0 (Int.toNat (4)),y4,y5,0,0,false,0,false⟩:aa)))] rfl ⟨az.g (aK jo cH cW rfl rfl),ax (en 38 rfl) rfl rfl (fH Ad),gC.ix rfl rfl rfl pM,ax (en 38 rfl) rfl rfl (fH vf),gC.ix rfl rfl rfl mb,gC.ix rfl rfl rfl jX,gC.ix rfl rfl rfl gM,ax (en 38 rfl) rfl rfl (fH mA),gC.ix rfl rfl rfl fh,ax (en 38 rfl) rfl rfl (fH gN),gC.ix rfl rfl rfl dY,ax (en 39 rfl) rfl rfl (Cg dI),gC.ix rfl rfl rfl dD,(show _=true by kernel_rfl)⟩ (.di (ι:=O uA) (λcU=>[(0,.d (ag 1 rS v0)),(2,.ref 0 0),(4,.ref 1 0)]) (λcU=>⟨[.row 153 [.d (cI 0),.d (cI 0),.d (cI 0),.d (cS ([]:O uA)),.d (cS ([]:O uA)),.d (cI 0),.d (cI 0),.d (cI 0),.d (cI 0),.d (cB false),.d (cI 0),.d (cB false)],.row 153 [.d (cI y2),.d (cI y3),.d (cI y1),.d (cS (nth v0 (Int.toNat (3)))),.d (cS cU),.d (cI y4),.d (cI y5),.d (cI 0),.d (cI 0),.d (cB false),.d (cI 0),.d (cB false)]],[]⟩) (λs=>dz v0 y1 y2 y3 y4 y5 s=some r) ?_ ?_)
  ·rintro cU H
   replace H:dz v0 y1 y2 y3 y4 y5 cU=some r:=H
   unfold dz at H
   refine .E 4 rfl (.di (ι:=Int×Int×Int×Bool) (λ⟨bB,lV,lW,ni⟩=>[(0,.d (ag 1 rS v0)),(2,.ref 0 0),(4,.ref 1 0),(5,.d (cI bB))]) (λ⟨bB,lV,lW,ni⟩=>⟨[.row 153 [.d (cI 0),.d (cI 0),.d (cI 0),.d (cS ([]:O uA)),.d (cS ([]:O uA)),.d (cI 0),.d (cI 0),.d (cI 0),.d (cI 0),.d (cB false),.d (cI 0),.d (cB false)],.row 153 [.d (cI y2),.d (cI y3),.d (cI y1),.d (cS (nth v0 (Int.toNat (3)))),.d (cS cU),.d (cI y4),.d (cI y5),.d (cI lV),.d (cI lW),.d (cB ni),.d (cI 0),.d (cB false)]],[]⟩) (λs=>db v0 y1 y2 y3 y4 y5 cU s.1 s.2.1 s.2.2.1 s.2.2.2=some r) ?_ ?_)
   ·rintro ⟨bB,lV,lW,ni⟩ H
    replace H:db v0 y1 y2 y3 y4 y5 cU bB lV lW ni=some r:=H
    unfold db at H
    refine .di (ι:=Int×Int×Bool) (λ⟨IM,ri,tc⟩=>[(0,.d (ag 1 rS v0)),(2,.ref 0 0),(4,.ref 1 0),(5,.d (cI IM))]) (λ⟨IM,ri,tc⟩=>⟨[.row 153 [.d (cI 0),.d (cI 0),.d (cI 0),.d (cS ([]:O uA)),.d (cS ([]:O uA)),.d (cI 0),.d (cI 0),.d (cI 0),.d (cI 0),.d (cB false),.d (cI 0),.d (cB false)],.row 153 [.d (cI y2),.d (cI y3),.d (cI y1),.d (cS (nth v0 (Int.toNat (3)))),.d (cS cU),.d (cI y4),.d (cI y5),.d (cI lV),.d (cI lW),.d (cB ni),.d (cI ri),.d (cB tc)]],[]⟩) (λs=>eV v0 y1 y2 y3 y4 y5 cU lV lW ni s.1 s.2.1 s.2.2=some r) ?_ ?_
    ·rintro ⟨IM,ri,tc⟩ H
     replace H:eV v0 y1 y2 y3 y4 y5 cU lV lW ni IM ri tc=some r:=H
     unfold eV at H
     refine .A 56 [.i (v0.length:Int)] rfl ⟨rfl,rfl,rfl,rfl,rfl,gC.n rfl rfl,rfl,rfl,rfl,rfl,rfl,rfl,rfl,rfl,rfl,rfl,rfl,rfl,rfl,rfl,rfl,rfl,rfl,rfl⟩ (.R func105 results105 rfl ?_)
     cases H
     exact .m rfl (.cZ rfl)
    ·intro Hq
     obtain ⟨gO,H⟩:=ab H
     obtain ⟨m4,H⟩:=ab H
     obtain ⟨nk,H⟩:=ab H
     refine .B 19 [.i (bB+1),.i (v0.length:Int),.d (.ro (rS (nth v0 bB.toNat))),.d (.ro (rS (nth v0 bB.toNat)))] rfl ⟨rfl,rfl,λhg=>gC.ix rfl rfl rfl (nk hg),rfl,rfl,rfl,rfl,rfl,λhg=>gC.ix rfl rfl rfl (m4 hg),rfl,rfl,gC.n rfl rfl,ay rfl rfl gO⟩ (.eN (env':=[(109,_),(114,_)]) rfl rfl rfl ⟨.inr (.inl rfl),⟨.inr (.inr ⟨_,_,rfl,rfl⟩),trivial⟩⟩ rfl (λhg=>az.g (s7 rfl rfl rfl)) (.A 2 [] rfl rfl (.ite H rfl (λH=>?_) (λH=>?_))))
     ·obtain ⟨rV,H⟩:=ab H
      obtain ⟨vm,H⟩:=ab H
      obtain ⟨Ao,H⟩:=ab H
      obtain ⟨y6,Gc,H⟩:=af H
      obtain ⟨Ap,H⟩:=ab H
      exact .A 26 [.d (.ro (rS (nth v0 bB.toNat))),.i (bB+1),.d (.ro (rS (nth v0 (bB+1).toNat))),.i y6,.i (bB+2)] rfl ⟨ay rfl rfl Ap,ax (en 38 rfl) rfl rfl (fH Gc),gC.ix rfl rfl rfl Ao,ay rfl rfl vm,gC.ix rfl rfl rfl rV⟩ (.z (Hq (bB+2,y6,((nth v0 bB.toNat)==([105,110]:O uA))) H) rfl rfl)
     ·exact .E 1 rfl (.z (Hq (bB,0,false) H) rfl rfl)
   ·intro ru
    obtain ⟨D3,H⟩:=ab H
    obtain ⟨D4,H⟩:=ab H
    refine .A 15 [.i (7+2),.i (v0.length:Int),.d (.ro (rS (nth v0 (Int.toNat (7)))))] rfl ⟨rfl,rfl,rfl,λhg=>gC.ix rfl rfl rfl (D4 hg),rfl,rfl,gC.n rfl rfl,ay rfl rfl D3⟩ (.ite H rfl (λH=>?_) (λH=>?_))
    ·obtain ⟨D5,H⟩:=ab H
     obtain ⟨KX,H⟩:=ab H
     obtain ⟨y7,Nj,H⟩:=af H
     obtain ⟨KY,H⟩:=ab H
     obtain ⟨KZ,H⟩:=ab H
     obtain ⟨y8,QO,H⟩:=af H
     obtain ⟨K0,H⟩:=ab H
     obtain ⟨QP,H⟩:=ab H
     refine .A 42 [.i (7+1),.d (.ro (rS (nth v0 (Int.toNat (7+1))))),.i y7,.i (7+2),.d (.ro (rS (nth v0 (Int.toNat (7+2))))),.i y8,.i (7+3),.i (v0.length:Int),.d (.ro (rS (nth v0 (Int.toNat (7+3)))))] rfl ⟨rfl,rfl,rfl,λhg=>gC.ix rfl rfl rfl (QP hg),rfl,rfl,gC.n rfl rfl,ay rfl rfl K0,ax (en 38 rfl) rfl rfl (fH QO),gC.ix rfl rfl rfl KZ,ay rfl rfl KY,ax (en 38 rfl) rfl rfl (fH Nj),gC.ix rfl rfl rfl KX,ay rfl rfl D5⟩ (.ite H rfl (λH=>?_) (λH=>?_))
     ·obtain ⟨Vy,H⟩:=ab H
      exact .A 10 [.i ((7+3)+1)] rfl (ay rfl rfl Vy) (.z (ru ((7+3)+1,y7,y8,true) H) rfl rfl)
     ·exact .E 1 rfl (.z (ru (7+3,y7,y8,false) H) rfl rfl)
    ·exact .E 1 rfl (.z (ru (7,0,0,false) H) rfl rfl)
  ·intro ly
   refine .E 6 rfl (.ite H rfl (λH=>?_) (λH=>?_))
   ·exact .E 4 rfl (.z (ly ([]:O uA) H) rfl rfl)
   ·exact .E 1 rfl (.z (ly (nth v0 (Int.toNat (4))) H) rfl rfl)
theorem iQ {m8 Hp B5:Int} {r:Bool} (H:iE m8 Hp B5=some r):aB prog 113 [cI m8,cI Hp,cI B5] (·=cB r):=by
 refine aB.aS func113 rfl ntmps113 rfl λS hS=>?_
 unfold iE at H
 refine .A 16 [] rfl ⟨rfl,rfl,rfl⟩ (.R func113 results113 rfl ?_)
 cases H
 exact .m rfl (.av _)
theorem jL {v0:aa} {r:Int} (H:eI v0=some r):aB prog 94 [.agg (aa.row v0)] (·=cI r):=by
 refine aB.aS func94 rfl ntmps94 rfl λS hS=>?_
 unfold eI at H
 obtain ⟨y1,dI,H⟩:=af H
 obtain ⟨y2,gN,H⟩:=af H
 refine .A 21 [.r 0,.b y1,.b y2] rfl ⟨rfl,rfl,λhg=>ax (en 40 rfl) rfl rfl (iQ (b6 gN hg)),rfl,rfl,ax (en 40 rfl) rfl rfl (iQ dI)⟩ (.ite H rfl (λH=>?_) (λH=>?_))
 ·refine .E 4 rfl (.R func94 results94 rfl ?_)
  cases H
  exact .m rfl (.av _)
 ·obtain ⟨y3,mA,H⟩:=af H
  refine .A 8 [.b y3] rfl (ax (en 40 rfl) rfl rfl (iQ mA)) (.ite H rfl (λH=>?_) (λH=>?_))
  ·refine .E 4 rfl (.R func94 results94 rfl ?_)
   cases H
   exact .m rfl (.av _)
  ·obtain ⟨y4,vf,H⟩:=af H
   refine .A 8 [.b y4] rfl (ax (en 3 rfl) rfl rfl (mz vf)) (.ite H rfl (λH=>?_) (λH=>?_))
   ·refine .E 4 rfl (.R func94 results94 rfl ?_)
    cases H
    exact .m rfl (.av _)
   ·obtain ⟨y5,Ad,H⟩:=af H
    refine .B 18 [.b y5] rfl ⟨rfl,rfl,rfl,rfl,rfl,rfl,rfl,rfl,ax (en 3 rfl) rfl rfl (mz Ad)⟩ (.eN (env':=[(37,_),(40,_)]) rfl rfl rfl ⟨.inr (.inl rfl),⟨.inr (.inr ⟨_,_,rfl,rfl⟩),trivial⟩⟩ rfl (λhg=>az.g (cC rfl rfl rfl)) (.eN (env':=[(33,_),(41,_)]) rfl rfl rfl ⟨.inr (.inl rfl),⟨.inr (.inr ⟨_,_,rfl,rfl⟩),trivial⟩⟩ rfl (λhg=>az.g (s7 rfl rfl rfl)) (.A 3 [] rfl rfl (.ite H rfl (λH=>?_) (λH=>?_)))))
    ·refine .E 4 rfl (.R func94 results94 rfl ?_)
     cases H
     exact .m rfl (.av _)
    ·obtain ⟨y6,Gc,H⟩:=af H
     refine .A 8 [.b y6] rfl (ax (en 40 rfl) rfl rfl (iQ Gc)) (.ite H rfl (λH=>?_) (λH=>?_))
     ·refine .E 4 rfl (.R func94 results94 rfl ?_)
      cases H
      exact .m rfl (.av _)
     ·obtain ⟨y7,Nj,H⟩:=af H
      refine .B 14 [.b y7] rfl ⟨rfl,rfl,rfl,rfl,rfl,ax (en 40 rfl) rfl rfl (iQ Nj)⟩ (.eN (env':=[(58,_),(61,_)]) rfl rfl rfl ⟨.inr (.inl rfl),⟨.inr (.inr ⟨_,_,rfl,rfl⟩),trivial⟩⟩ rfl (λhg=>az.g (cC rfl rfl rfl)) (.A 3 [] rfl rfl (.ite H rfl (λH=>?_) (λH=>?_))))
      ·refine .E 4 rfl (.R func94 results94 rfl ?_)
       cases H
       exact .m rfl (.av _)
      ·obtain ⟨cA,H⟩:=ab H
       refine .A 15 [.i (v0.start+v0.aJ)] rfl ⟨rfl,rfl,λhg=>ay rfl rfl (cA hg),rfl,rfl,rfl,rfl⟩ (.ite H rfl (λH=>?_) (λH=>?_))
       ·refine .E 4 rfl (.R func94 results94 rfl ?_)
        cases H
        exact .m rfl (.av _)
       ·obtain ⟨y8,QO,H⟩:=af H
        obtain ⟨y9,Tg,H⟩:=af H
        refine .A 14 [.b y8,.b y9] rfl ⟨rfl,rfl,λhg=>ax (en 40 rfl) rfl rfl (iQ (b6 Tg hg)),rfl,rfl,ax (en 40 rfl) rfl rfl (iQ QO)⟩ (.ite H rfl (λH=>?_) (λH=>?_))
        ·refine .E 4 rfl (.R func94 results94 rfl ?_)
         cases H
         exact .m rfl (.av _)
        ·refine .B 16 [.b ((v0.part==0) != (v0.call==0))] rfl ⟨rfl,rfl,rfl,rfl,az.g (Fw rfl underlying4 rfl)⟩ (.eN (env':=[(98,_),(101,_)]) rfl rfl rfl ⟨.inr (.inl rfl),⟨.inr (.inr ⟨_,_,rfl,rfl⟩),trivial⟩⟩ rfl (λhg=>az.g (cC rfl rfl rfl)) (.A 3 [] rfl rfl (.ite H rfl (λH=>?_) (λH=>?_))))
         ·refine .E 4 rfl (.R func94 results94 rfl ?_)
          cases H
          exact .m rfl (.av _)
         ·obtain ⟨Nf,QQ,H⟩:=af H
          refine .A 8 [.b Nf] rfl (ax (en 40 rfl) rfl rfl (iQ QQ)) (.ite H rfl (λH=>?_) (λH=>?_))
          ·refine .E 4 rfl (.R func94 results94 rfl ?_)
           cases H
           exact .m rfl (.av _)
          ·refine .A 11 [] rfl ⟨rfl,rfl,rfl⟩ (.ite H rfl (λH=>?_) (λH=>?_))
           ·refine .E 4 rfl (.R func94 results94 rfl ?_)
            cases H
            exact .m rfl (.av _)
           ·refine .E 6 rfl (.R func94 results94 rfl ?_)
            cases H
            exact .m rfl (.av _)
theorem dX {m8:Int} {r:(O uA)} (H:dd m8=some r):aB prog 121 [cI m8] (·=cS r):=by
 obtain ⟨i5,nR,xr,nS,DY⟩:=u4
 refine aB.aS func121 rfl ntmps121 rfl λS hS=>?_
 unfold dd at H
 obtain ⟨cA,H⟩:=ab H
 obtain ⟨cP,H⟩:=ab H
 obtain ⟨dD,H⟩:=ab H
 refine .A 22 [.i (Int.tmod m8 10),.i (48+(Int.tmod m8 10)),.c (UInt8.ofInt (48+(Int.tmod m8 10))),.d (ag 1 cq ([UInt8.ofInt (48+(Int.tmod m8 10))]:O uA)),.s ([UInt8.ofInt (48+(Int.tmod m8 10))]:O uA),.i (Int.tdiv m8 10)] rfl ⟨az.g (tV rfl rfl dD),az.g (iu (a:=([UInt8.ofInt (48+(Int.tmod m8 10))]:O uA)) underlying84 underlying5 underlying9 rfl rfl),aC underlying84 nR nS xr rfl rfl rfl rfl rfl,az.g (xm underlying3 underlying5 rfl),ay rfl rfl cP,az.g (vW rfl rfl cA)⟩ (.lp H (λ⟨qb,wO⟩=>[(0,.d (cI qb)),(3,.d (cS wO))]) (λ⟨qb,wO⟩=>⟨[],[]⟩) (.k2 rfl rfl (.nil)) rfl ?_)
 rintro ⟨qb,wO⟩ q1 H bt
 dsimp only at H
 unfold jR at H
 refine .E 6 rfl (.ite H rfl (λH=>?_) (λH=>?_))
 ·obtain ⟨dY,H⟩:=ab H
  obtain ⟨fh,H⟩:=ab H
  obtain ⟨gM,H⟩:=ab H
  obtain ⟨jX,H⟩:=ab H
  refine let z0:=(48+(Int.tmod qb 10));.A 20 [.i (Int.tmod qb 10),.i z0,.c (UInt8.ofInt z0),.d (ag 1 cq ([UInt8.ofInt z0]:O uA)),.s ([UInt8.ofInt z0]:O uA),.s (([UInt8.ofInt z0]:O uA)++wO),.i (Int.tdiv qb 10)] rfl ⟨az.g (tV rfl rfl jX),az.g (dM rfl rfl gM),az.g (iu (a:=([UInt8.ofInt z0]:O uA)) underlying84 underlying5 underlying9 rfl rfl),aC underlying84 nR nS xr rfl rfl rfl rfl rfl,az.g (xm underlying3 underlying5 rfl),ay rfl rfl fh,az.g (vW rfl rfl dY)⟩ ?_
  cases H
  exact .z bt rfl rfl
 ·refine .E 6 rfl (.R func121 results121 rfl ?_)
  cases H
  cases bt
  exact .m rfl (.av _)
theorem yN {v0:aa} {r:(O uA)×Int} (H:gw v0=some r):aB prog 107 [.agg (aa.row v0)] (·=.dp [cS r.1,cI r.2]):=by
 refine aB.aS func107 rfl ntmps107 rfl λS hS=>?_
 unfold gw at H
 obtain ⟨y1,dI,H⟩:=af H
 refine .A 18 [.r 0,.i y1] rfl (ax (en 41 rfl) rfl rfl (jL dI)) (.ite H rfl (λH=>?_) (λH=>?_))
 ·refine .E 6 rfl (.R func107 results107 rfl ?_)
  cases H
  exact .m rfl (.cZ rfl)
 ·refine .A 9 [.p 4] rfl (show _=true by kernel_rfl) (.di (ι:=O uA) (λkE=>[(1,.ref 0 0),(5,.d (cS ([118,116,100,99]:O uA))),(6,.d (cS kE))]) (λkE=>⟨[.row 153 [.d (cI v0.source),.d (cI v0.aF),.d (cI v0.kind),.d (cS v0.a),.d (cS v0.b),.d (cI v0.start),.d (cI v0.aJ),.d (cI v0.call),.d (cI v0.part),.d (cB v0.last),.d (cI v0.bh),.d (cB v0.aP)]],[]⟩) (λs=>eo v0 s=some r) ?_ ?_)
  ·rintro kE H
   replace H:eo v0 kE=some r:=H
   unfold eo at H
   obtain ⟨cA,H⟩:=ab H
   obtain ⟨cP,H⟩:=ab H
   obtain ⟨dD,H⟩:=ab H
   obtain ⟨y2,gN,H⟩:=af H
   obtain ⟨dY,H⟩:=ab H
   obtain ⟨fh,H⟩:=ab H
   obtain ⟨y3,mA,H⟩:=af H
   obtain ⟨gM,H⟩:=ab H
   obtain ⟨jX,H⟩:=ab H
   obtain ⟨mb,H⟩:=ab H
   obtain ⟨pM,H⟩:=ab H
   obtain ⟨gO,H⟩:=ab H
   obtain ⟨m4,H⟩:=ab H
   obtain ⟨y4,vf,H⟩:=af H
   obtain ⟨nk,H⟩:=ab H
   obtain ⟨rV,H⟩:=ab H
   obtain ⟨y5,Ad,H⟩:=af H
   obtain ⟨vm,H⟩:=ab H
   refine let z2:=((([118,116,100,99]:O uA).take v0.kind.toNat).drop (v0.kind-1).toNat);let z0:=(((z2++([32]:O uA))++y2)++([32]:O uA));let z1:=((((z0++y3)++([32]:O uA))++v0.a)++([32]:O uA));let z3:=((z1++kE)++([32]:O uA));.A 39 [.p 35,.i (v0.kind-1),.s z2,.s (z2++([32]:O uA)),.s y2,.s ((z2++([32]:O uA))++y2),.s z0,.s y3,.s (z0++y3),.s ((z0++y3)++([32]:O uA)),.s (((z0++y3)++([32]:O uA))++v0.a),.s z1,.s (z1++kE),.s z3,.s y4,.s (z3++y4),.s ((z3++y4)++([32]:O uA)),.s y5,.s (((z3++y4)++([32]:O uA))++y5)] rfl ⟨az.g (dM rfl rfl vm),ax (en 42 rfl) rfl rfl (dX Ad),az.g (dM rfl rfl rV),az.g (dM rfl rfl nk),ax (en 42 rfl) rfl rfl (dX vf),az.g (dM rfl rfl m4),az.g (dM rfl rfl gO),az.g (dM rfl rfl pM),az.g (dM rfl rfl mb),az.g (dM rfl rfl jX),az.g (dM rfl rfl gM),ax (en 42 rfl) rfl rfl (dX mA),az.g (dM rfl rfl fh),az.g (dM rfl rfl dY),ax (en 42 rfl) rfl rfl (dX gN),az.g (dM rfl rfl dD),az.g (yf underlying9 rfl rfl rfl cP),gZ rfl rfl cA,(show _=true by kernel_rfl)⟩ ?_
   refine .di (ι:=O uA) (λyB=>[(1,.ref 0 0),(7,.d (cS yB))]) (λyB=>⟨[.row 153 [.d (cI v0.source),.d (cI v0.aF),.d (cI v0.kind),.d (cS v0.a),.d (cS v0.b),.d (cI v0.start),.d (cI v0.aJ),.d (cI v0.call),.d (cI v0.part),.d (cB v0.last),.d (cI v0.bh),.d (cB v0.aP)]],[]⟩) (λs=>ek v0 s=some r) ?_ ?_
   ·rintro yB H
    replace H:ek v0 yB=some r:=H
    unfold ek at H
    refine .di (ι:=O uA) (λw4=>[(1,.ref 0 0),(7,.d (cS w4))]) (λw4=>⟨[.row 153 [.d (cI v0.source),.d (cI v0.aF),.d (cI v0.kind),.d (cS v0.a),.d (cS v0.b),.d (cI v0.start),.d (cI v0.aJ),.d (cI v0.call),.d (cI v0.part),.d (cB v0.last),.d (cI v0.bh),.d (cB v0.aP)]],[]⟩) (λs=>ej v0 s=some r) ?_ ?_
    ·rintro w4 H
     replace H:ej v0 w4=some r:=H
     unfold ej at H
     refine .di (ι:=O uA) (λAb=>[(1,.ref 0 0),(7,.d (cS Ab))]) (λAb=>⟨[.row 153 [.d (cI v0.source),.d (cI v0.aF),.d (cI v0.kind),.d (cS v0.a),.d (cS v0.b),.d (cI v0.start),.d (cI v0.aJ),.d (cI v0.call),.d (cI v0.part),.d (cB v0.last),.d (cI v0.bh),.d (cB v0.aP)]],[]⟩) (λs=>ei v0 s=some r) ?_ ?_
     ·rintro Ab H
      replace H:ei v0 Ab=some r:=H
      unfold ei at H
      refine .A 12 [] rfl ⟨rfl,rfl,rfl⟩ (.ite H rfl (λH=>?_) (λH=>?_))
      ·obtain ⟨Ao,H⟩:=ab H
       obtain ⟨y6,Gc,H⟩:=af H
       obtain ⟨Ap,H⟩:=ab H
       refine let z0:=(Ab++([32,111,117,116,32]:O uA));.A 15 [.s z0,.s y6,.s (z0++y6)] rfl ⟨az.g (dM rfl rfl Ap),ax (en 42 rfl) rfl rfl (dX Gc),az.g (dM rfl rfl Ao)⟩ ?_
       refine .R func107 results107 rfl ?_
       cases H
       exact .m rfl (.cZ rfl)
      ·refine .E 7 rfl (.R func107 results107 rfl ?_)
       cases H
       exact .m rfl (.cZ rfl)
     ·intro O4
      refine .A 10 [] rfl ⟨rfl,rfl⟩ (.ite H rfl (λH=>?_) (λH=>?_))
      ·obtain ⟨D3,H⟩:=ab H
       obtain ⟨y7,Nj,H⟩:=af H
       obtain ⟨D4,H⟩:=ab H
       refine let z0:=(w4++([32,105,110,32]:O uA));.A 9 [.s z0,.s y7,.s (z0++y7)] rfl ⟨az.g (dM rfl rfl D4),ax (en 42 rfl) rfl rfl (dX Nj),az.g (dM rfl rfl D3)⟩ ?_
       exact .z (O4 ((w4++([32,105,110,32]:O uA))++y7) H) rfl rfl
      ·exact .E 1 rfl (.z (O4 w4 H) rfl rfl)
    ·intro Hq
     refine .E 5 rfl (.ite H rfl (λH=>?_) (λH=>?_))
     ·obtain ⟨D5,H⟩:=ab H
      exact .A 5 [.s (yB++([32,108,97,115,116]:O uA))] rfl (az.g (dM rfl rfl D5)) (.z (Hq (yB++([32,108,97,115,116]:O uA)) H) rfl rfl)
     ·exact .E 1 rfl (.z (Hq yB H) rfl rfl)
   ·intro ru
    refine .E 6 rfl (.ite H rfl (λH=>?_) (λH=>?_))
    ·obtain ⟨KX,H⟩:=ab H
     obtain ⟨y8,QO,H⟩:=af H
     obtain ⟨KY,H⟩:=ab H
     obtain ⟨KZ,H⟩:=ab H
     obtain ⟨y9,Tg,H⟩:=af H
     obtain ⟨K0,H⟩:=ab H
     refine let z0:=(((((((((((((((([118,116,100,99]:O uA).take v0.kind.toNat).drop (v0.kind-1).toNat)++([32]:O uA))++y2)++([32]:O uA))++y3)++([32]:O uA))++v0.a)++([32]:O uA))++kE)++([32]:O uA))++y4)++([32]:O uA))++y5)++([32,112,97,114,116,32]:O uA));.A 15 [.p 12,.s z0,.s y8,.s (z0++y8),.s ((z0++y8)++([32]:O uA)),.s y9,.s (((z0++y8)++([32]:O uA))++y9)] rfl ⟨az.g (dM rfl rfl K0),ax (en 42 rfl) rfl rfl (dX Tg),az.g (dM rfl rfl KZ),az.g (dM rfl rfl KY),ax (en 42 rfl) rfl rfl (dX QO),az.g (dM rfl rfl KX),(show _=true by kernel_rfl)⟩ ?_
     exact .z (ru ((((((((((((((((((([118,116,100,99]:O uA).take v0.kind.toNat).drop (v0.kind-1).toNat)++([32]:O uA))++y2)++([32]:O uA))++y3)++([32]:O uA))++v0.a)++([32]:O uA))++kE)++([32]:O uA))++y4)++([32]:O uA))++y5)++([32,112,97,114,116,32]:O uA))++y8)++([32]:O uA))++y9) H) rfl rfl
    ·exact .E 1 rfl (.z (ru ((((((((((((((([118,116,100,99]:O uA).take v0.kind.toNat).drop (v0.kind-1).toNat)++([32]:O uA))++y2)++([32]:O uA))++y3)++([32]:O uA))++v0.a)++([32]:O uA))++kE)++([32]:O uA))++y4)++([32]:O uA))++y5) H) rfl rfl)
  ·intro ly
   refine .E 5 rfl (.ite H rfl (λH=>?_) (λH=>?_))
   ·exact .E 3 rfl (.z (ly ([45]:O uA) H) rfl rfl)
   ·exact .E 1 rfl (.z (ly v0.b H) rfl rfl)
theorem yO {yC:O uA} {r:aa×Int} (H:kF yC=some r):aB prog 91 [cS yC] (·=.dp [.agg (aa.row r.1),cI r.2]):=by
 obtain ⟨i153,cH,cW,eB,m5⟩:=jn
 refine aB.aS func91 rfl ntmps91 rfl λS hS=>?_
 unfold kF at H
 obtain ⟨y1,dI,H⟩:=af H
 obtain ⟨y2,gN,H⟩:=af H
 refine .A 23 [.r 0,.d (ag 1 rS y1),.d (.dp [.agg (aa.row y2.1),cB y2.2]),.r 1] rfl ⟨ax (en 43 rfl) rfl rfl (An gN),ax (en 44 rfl) rfl rfl (Am dI)⟩ (.ite H rfl (λH=>?_) (λH=>?_))
 ·refine .A 6 [.d (.agg (aa.row kq5))] rfl (az.g (aK jo cH cW rfl rfl)) (.R func91 results91 rfl ?_)
  cases H
  exact .m rfl (.cZ rfl)
 ·obtain ⟨y3,mA,H⟩:=af H
  refine .A 17 [.d (.dp [cS y3.1,cI y3.2])] rfl (ax (en 45 rfl) rfl rfl (yN mA)) (.ite H rfl (λH=>?_) (λH=>?_))
  ·refine .A 7 [.d (.agg (aa.row kq5))] rfl (az.g (aK jo cH cW rfl rfl)) (.R func91 results91 rfl ?_)
   cases H
   exact .m rfl (.cZ rfl)
  ·refine .E 8 rfl (.ite H rfl (λH=>?_) (λH=>?_))
   ·refine .A 6 [.d (.agg (aa.row kq5))] rfl (az.g (aK jo cH cW rfl rfl)) (.R func91 results91 rfl ?_)
    cases H
    exact .m rfl (.cZ rfl)
   ·refine .E 7 rfl (.R func91 results91 rfl ?_)
    cases H
    exact .m rfl (.cZ rfl)
theorem D6 {bg:O uA} {r:(O aa)×(O aj)×Int} (H:qc bg=some r):aB prog 80 [cS bg] (·=.dp [ag 12 aa.row r.1,ag 4 aj.row r.2.1,cI r.2.2]):=by
 obtain ⟨i153,cH,cW,eB,m5⟩:=jn
 obtain ⟨i178,nt,pq,rN,A7⟩:=ue
 refine aB.aS func80 rfl ntmps80 rfl λS hS=>?_
 unfold qc at H
 obtain ⟨y1,dI,H⟩:=af H
 refine .A 22 [.d (.dp [ag 1 rS y1.1,cI y1.2])] rfl (ax (en 46 rfl) rfl rfl (Ak dI)) (.ite H rfl (λH=>?_) (λH=>?_))
 ·refine .E 7 rfl (.R func80 results80 rfl ?_)
  cases H
  exact .m rfl (.eP ⟨.nil 12,.nil 4,.av _,trivial⟩)
 ·refine .E 14 rfl (.tok (i:=7) (e:=153) (sz:=12) rfl (.tok (i:=8) (e:=178) (sz:=4) rfl (.bw (ι:=O aa×O aj) (λ⟨fb,ui⟩=>[(7,.bX 12 (fb.map aa.row) 0),(8,.bX 4 (ui.map aj.row) 1)]) (λ⟨fb,ui⟩=>⟨[],[dh fb.length,jb ui.length]⟩) (λs=>nC s.1 s.2=some r) ?_ ?_)))
  ·rintro ⟨fb,ui⟩ H
   replace H:nC fb ui=some r:=H
   unfold nC at H
   refine .E 8 rfl (.R func80 results80 rfl ?_)
   cases H
   exact .m rfl (.eP ⟨.bX _ _ _,.bX _ _ _,.av _,trivial⟩)
  ·intro ly eF
   refine .lp H (λ⟨cV,oF,a9⟩=>[(5,.d (ag 1 rS y1.1)),(7,.bX 12 (cV.map aa.row) 0),(8,.bX 4 (oF.map aj.row) 1),(9,.d (cI a9))]) (λ⟨cV,oF,a9⟩=>⟨[],[dh cV.length,jb oF.length]⟩) (.k4 rfl rfl rfl rfl (.nil)) rfl ?_
   rintro ⟨cV,oF,a9⟩ q1 H bt
   dsimp only at H
   unfold nD at H
   refine .A 8 [.i (y1.1.length:Int)] rfl (gC.n rfl rfl) (.ite H rfl (λH=>?_) (λH=>?_))
   ·obtain ⟨cA,H⟩:=ab H
    obtain ⟨y2,gN,H⟩:=af H
    refine .A 22 [.d (.ro (rS (nth y1.1 a9.toNat))),.d (.dp [.agg (aa.row y2.1),cI y2.2]),.r 0] rfl ⟨ax (en 47 rfl) rfl rfl (yO gN),gC.ix rfl rfl rfl cA⟩ (.ite H rfl (λH=>?_) (λH=>?_))
    ·obtain ⟨cP,H⟩:=ab H
     obtain ⟨dD,H⟩:=ab H
     refine .A 13 [.d (ag 12 aa.row ([y2.1]:O aa)),.a 0 153 12 aa.row (cV++([y2.1]:O aa)),.i (a9+1)] rfl ⟨ay rfl rfl dD,lC.a rfl rfl rfl rfl cP,aC underlying27 cH eB cW rfl rfl rfl rfl rfl⟩ ?_
     cases H
     exact .t 0 2 bt rfl rfl rfl rfl rfl hS rfl
    ·obtain ⟨dY,H⟩:=ab H
     obtain ⟨fh,H⟩:=ab H
     refine .A 15 [.d (.agg (aj.row (⟨0,0,a9,y2.2⟩:aj))),.d (ag 4 aj.row ([(⟨0,0,a9,y2.2⟩:aj)]:O aj)),.a 1 178 4 aj.row (oF++([(⟨0,0,a9,y2.2⟩:aj)]:O aj)),.i (a9+1)] rfl ⟨ay rfl rfl fh,O0.a rfl rfl rfl rfl dY,aC underlying32 nt rN pq rfl rfl rfl rfl rfl,az.g (aK B2 nt pq rfl rfl)⟩ ?_
     cases H
     exact .t 0 2 bt rfl rfl rfl rfl rfl hS rfl
   ·refine .E 1 rfl ?_
    obtain ⟨q0,H9,lz⟩:=bK H;clear H;cases lz
    cases bt
    have H:=H9
    exact .z (eF (cV,oF) H) rfl rfl
theorem wg {v0:O uA} {r:(O Element)×Int} (H:iF v0=some r):aB prog 108 [ag 1 cq v0] (·=.dp [ag 2 Element.row r.1,cI r.2]):=by
 obtain ⟨i5,nR,xr,nS,DY⟩:=u4
 obtain ⟨i211,D7,K1,Hs,Th⟩:=F3
 refine aB.aS func108 rfl ntmps108 rfl λS hS=>?_
 unfold iF at H
 refine .E 16 rfl (.tok (i:=4) (e:=211) (sz:=2) rfl (.lp H (λ⟨B6,da,bc⟩=>[(0,.d (ag 1 cq v0)),(4,.bX 2 (B6.map Element.row) 0),(5,.d (cI da)),(6,.d (cI bc))]) (λ⟨B6,da,bc⟩=>⟨[],[⟨211,2,B6.length,none⟩]⟩) (.k4 rfl rfl rfl rfl (.nil)) rfl ?_))
 rintro ⟨B6,da,bc⟩ q1 H bt
 dsimp only at H
 unfold hG at H
 refine .A 8 [.i (v0.length:Int)] rfl (ju.n rfl rfl) (.ite H rfl (λH=>?_) (λH=>?_))
 ·obtain ⟨cA,H⟩:=ab H
  refine .A 17 [.d (.ro (cq (nth v0 bc.toNat))),.i ((nth v0 bc.toNat).toNat:Int)] rfl ⟨az.g (dw (a:=nth v0 bc.toNat) underlying5 underlying3 rfl),ju.ix rfl rfl rfl cA⟩ (.ite H rfl (λH=>?_) (λH=>?_))
  ·refine .E 5 rfl (.R func108 results108 rfl ?_)
   cases H
   cases bt
   exact .m rfl (.eP ⟨.nil 2,.av _,trivial⟩)
  ·refine .E 8 rfl (.ite H rfl (λH=>?_) (λH=>?_))
   ·refine .E 5 rfl (.R func108 results108 rfl ?_)
    cases H
    cases bt
    exact .m rfl (.eP ⟨.nil 2,.av _,trivial⟩)
   ·obtain ⟨cP,H⟩:=ab H
    obtain ⟨dD,H⟩:=ab H
    obtain ⟨dY,H⟩:=ab H
    obtain ⟨fh,H⟩:=ab H
    obtain ⟨gM,H⟩:=ab H
    refine .A 24 [.i (bc+1),.i (v0.length:Int),.i (bc+2),.i (bc+1),.d (.ro (cq (nth v0 (bc+1).toNat))),.i ((nth v0 (bc+1).toNat).toNat:Int),.i ((bc+2)+((nth v0 (bc+1).toNat).toNat:Int)),.i (v0.length:Int)] rfl ⟨rfl,rfl,rfl,λhg=>ju.n rfl rfl,rfl,λhg=>ay rfl rfl (gM hg),rfl,rfl,λhg=>az.g (dw (a:=nth v0 (bc+1).toNat) underlying5 underlying3 rfl),rfl,rfl,λhg=>ju.ix rfl rfl rfl (fh hg),rfl,rfl,λhg=>ay rfl rfl (dY hg),rfl,λhg=>ay rfl rfl (dD hg),rfl,ju.n rfl rfl,ay rfl rfl cP⟩ (.ite H rfl (λH=>?_) (λH=>?_))
    ·refine .E 5 rfl (.R func108 results108 rfl ?_)
     cases H
     cases bt
     exact .m rfl (.eP ⟨.nil 2,.av _,trivial⟩)
    ·obtain ⟨jX,H⟩:=ab H
     obtain ⟨mb,H⟩:=ab H
     obtain ⟨pM,H⟩:=ab H
     obtain ⟨gO,H⟩:=ab H
     obtain ⟨m4,H⟩:=ab H
     obtain ⟨nk,H⟩:=ab H
     obtain ⟨rV,H⟩:=ab H
     obtain ⟨vm,H⟩:=ab H
     obtain ⟨Ao,H⟩:=ab H
     obtain ⟨Ap,H⟩:=ab H
     refine .A 40 [.i (bc+1),.d (.ro (cq (nth v0 (bc+1).toNat))),.i ((nth v0 (bc+1).toNat).toNat:Int),.d (.e0 1),.i (bc+2),.i (bc+2),.i ((bc+2)+((nth v0 (bc+1).toNat).toNat:Int)),.d (ag 1 cq ((v0.take ((bc+2)+((nth v0 (bc+1).toNat).toNat:Int)).toNat).drop (bc+2).toNat)),.d (ag 1 cq ((v0.take ((bc+2)+((nth v0 (bc+1).toNat).toNat:Int)).toNat).drop (bc+2).toNat)),.d (.agg (Element.row (⟨((nth v0 bc.toNat).toNat:Int),(v0.take ((bc+2)+((nth v0 (bc+1).toNat).toNat:Int)).toNat).drop (bc+2).toNat⟩:Element))),.d (ag 2 Element.row ([(⟨((nth v0 bc.toNat).toNat:Int),(v0.take ((bc+2)+((nth v0 (bc+1).toNat).toNat:Int)).toNat).drop (bc+2).toNat⟩:Element)]:O Element)),.a 0 211 2 Element.row (B6++([(⟨((nth v0 bc.toNat).toNat:Int),(v0.take ((bc+2)+((nth v0 (bc+1).toNat).toNat:Int)).toNat).drop (bc+2).toNat⟩:Element)]:O Element)),.i (bc+2),.i ((bc+2)+((nth v0 (bc+1).toNat).toNat:Int))] rfl ⟨ay rfl rfl Ap,ay rfl rfl Ao,S7.a rfl rfl rfl rfl vm,aC underlying206 D7 Hs K1 rfl rfl rfl rfl rfl,az.g (aK Qr D7 K1 rfl rfl),eO (l':=(v0.take ((bc+2)+((nth v0 (bc+1).toNat).toNat:Int)).toNat).drop (bc+2).toNat) (row:=cq) underlying84 nR xr nS rfl (by rw[DY];decide) rfl (.inl rfl) rfl rfl rV,az.g (qR (l:=v0) (row:=cq) underlying84 nR nS rfl rfl rfl rfl nk),ay rfl rfl m4,ay rfl rfl gO,ay rfl rfl pM,(nS▸bp underlying84 nR),az.g (dw (a:=nth v0 (bc+1).toNat) underlying5 underlying3 rfl),ju.ix rfl rfl rfl mb,ay rfl rfl jX⟩ ?_
     cases H
     exact .z bt rfl rfl
 ·refine .E 7 rfl (.R func108 results108 rfl ?_)
  cases H
  cases bt
  exact .m rfl (.eP ⟨.bX _ _ _,.av _,trivial⟩)
theorem yP {aU:O uA} {r:(O uA)×Int} (H:kG aU=some r):aB prog 122 [ag 1 cq aU] (·=.dp [cS r.1,cI r.2]):=by
 obtain ⟨i5,nR,xr,nS,DY⟩:=u4
 refine aB.aS func122 rfl ntmps122 rfl λS hS=>?_
 unfold kG at H
 refine .E 14 rfl (.bw (ι:=O uA) (λsx=>[(0,.d (ag 1 cq aU)),(4,.d (cS sx))]) (λsx=>⟨[],[]⟩) (λs=>fi aU s=some r) ?_ ?_)
 ·rintro sx H
  replace H:fi aU sx=some r:=H
  unfold fi at H
  obtain ⟨y1,dI,H⟩:=af H
  obtain ⟨cA,H⟩:=ab H
  obtain ⟨cP,H⟩:=ab H
  refine .A 16 [.b y1,.i (aU.length:Int),.i (2*(aU.length:Int)),.i (sx.length:Int),.i ((2*(aU.length:Int)) - (sx.length:Int))] rfl ⟨rfl,rfl,λhg=>gZ rfl rfl (cP hg),rfl,rfl,λhg=>az.g (ik underlying9 rfl),rfl,λhg=>ot rfl rfl (cA hg),rfl,λhg=>ju.n rfl rfl,rfl,ax (en 3 rfl) rfl rfl (mz dI)⟩ (.ite H rfl (λH=>?_) (λH=>?_))
  ·refine .E 5 rfl (.R func122 results122 rfl ?_)
   cases H
   exact .m rfl (.cZ rfl)
  ·refine .E 7 rfl (.R func122 results122 rfl ?_)
   cases H
   exact .m rfl (.cZ rfl)
 ·intro ly eF
  refine .lp H (λ⟨rH,ak⟩=>[(0,.d (ag 1 cq aU)),(4,.d (cS rH)),(5,.d (cI ak))]) (λ⟨rH,ak⟩=>⟨[],[]⟩) (.k3 rfl rfl rfl (.nil)) rfl ?_
  rintro ⟨rH,ak⟩ q1 H bt
  dsimp only at H
  unfold fj at H
  refine .A 12 [.i (aU.length:Int)] rfl ⟨rfl,rfl,ju.n rfl rfl⟩ (.ite H rfl (λH=>?_) (λH=>?_))
  ·obtain ⟨dD,H⟩:=ab H
   obtain ⟨dY,H⟩:=ab H
   obtain ⟨fh,H⟩:=ab H
   obtain ⟨gM,H⟩:=ab H
   obtain ⟨jX,H⟩:=ab H
   refine .A 41 [.p 12,.d (.ro (cq (nth aU ak.toNat))),.c (np (nth aU ak.toNat) 4),.d (.ro (cq (nth aU ak.toNat))),.c ((nth aU ak.toNat) &&& 15),.c (48+(np (nth aU ak.toNat) 4)),.d (ag 1 cq ([48+(np (nth aU ak.toNat) 4)]:O uA)),.s ([48+(np (nth aU ak.toNat) 4)]:O uA),.s (rH++([48+(np (nth aU ak.toNat) 4)]:O uA)),.b (((nth aU ak.toNat) &&& 15) != 15),.i (aU.length:Int),.i ((aU.length:Int) - 1)] rfl ⟨rfl,rfl,rfl,λhg=>gZ rfl rfl (jX hg),rfl,λhg=>ju.n rfl rfl,rfl,az.g (yd (a:=(nth aU ak.toNat) &&& 15) (b:=15) rfl rfl),az.g (dM rfl rfl gM),az.g (iu (a:=([48+(np (nth aU ak.toNat) 4)]:O uA)) underlying84 underlying5 underlying9 rfl rfl),aC underlying84 nR nS xr rfl rfl rfl rfl rfl,az.g (FM (a:=48) (b:=np (nth aU ak.toNat) 4) rfl rfl),az.g (PW (a:=nth aU ak.toNat) (b:=15) rfl rfl),ju.ix rfl rfl rfl fh,az.g (PX (a:=nth aU ak.toNat) (n:=4) rfl rfl dY),ju.ix rfl rfl rfl dD,(show _=true by kernel_rfl)⟩ (.ite H rfl (λH=>?_) (λH=>?_))
   ·obtain ⟨mb,H⟩:=ab H
    obtain ⟨pM,H⟩:=ab H
    refine .A 15 [.c (48+((nth aU ak.toNat) &&& 15)),.d (ag 1 cq ([48+((nth aU ak.toNat) &&& 15)]:O uA)),.s ([48+((nth aU ak.toNat) &&& 15)]:O uA),.s ((rH++([48+(np (nth aU ak.toNat) 4)]:O uA))++([48+((nth aU ak.toNat) &&& 15)]:O uA)),.i (ak+1)] rfl ⟨ay rfl rfl pM,az.g (dM rfl rfl mb),az.g (iu (a:=([48+((nth aU ak.toNat) &&& 15)]:O uA)) underlying84 underlying5 underlying9 rfl rfl),aC underlying84 nR nS xr rfl rfl rfl rfl rfl,az.g (FM (a:=48) (b:=(nth aU ak.toNat) &&& 15) rfl rfl)⟩ ?_
    cases H
    exact .z bt rfl rfl
   ·obtain ⟨gO,H⟩:=ab H
    refine .A 7 [.i (ak+1)] rfl (ay rfl rfl gO) ?_
    cases H
    exact .z bt rfl rfl
  ·refine .E 1 rfl ?_
   obtain ⟨q0,H9,lz⟩:=bK H;clear H;cases lz
   cases bt
   have H:=H9
   exact .z (eF rH H) rfl rfl
theorem yQ {aU:O uA} {r:Int} (H:kH aU=some r):aB prog 123 [ag 1 cq aU] (·=cI r):=by
 refine aB.aS func123 rfl ntmps123 rfl λS hS=>?_
 unfold kH at H
 obtain ⟨cA,H⟩:=ab H
 refine .A 22 [.i (aU.length:Int),.i (aU.length:Int),.d (.ro (cq (nth aU (Int.toNat (0))))),.b ((nth aU (Int.toNat (0)))==0)] rfl ⟨rfl,λhg=>az.g (vU (a:=nth aU (Int.toNat (0))) (b:=0) rfl rfl),rfl,rfl,λhg=>ju.ix rfl rfl rfl (cA hg),rfl,rfl,rfl,λhg=>ju.n rfl rfl,rfl,ju.n rfl rfl⟩ (.ite H rfl (λH=>?_) (λH=>?_))
 ·refine .E 4 rfl (.R func123 results123 rfl ?_)
  cases H
  exact .m rfl (.av _)
 ·refine .E 11 rfl (.lp H (λ⟨bU,aq⟩=>[(0,.d (ag 1 cq aU)),(3,.d (cI bU)),(4,.d (cI aq))]) (λ⟨bU,aq⟩=>⟨[],[]⟩) (.k3 rfl rfl rfl (.nil)) rfl ?_)
  rintro ⟨bU,aq⟩ q1 H bt
  dsimp only at H
  unfold jS at H
  refine .A 8 [.i (aU.length:Int)] rfl (ju.n rfl rfl) (.ite H rfl (λH=>?_) (λH=>?_))
  ·obtain ⟨cP,H⟩:=ab H
   obtain ⟨dD,H⟩:=ab H
   obtain ⟨dY,H⟩:=ab H
   obtain ⟨fh,H⟩:=ab H
   refine .A 20 [.i (bU*256),.d (.ro (cq (nth aU aq.toNat))),.i ((nth aU aq.toNat).toNat:Int),.i ((bU*256)+((nth aU aq.toNat).toNat:Int)),.i (aq+1)] rfl ⟨ay rfl rfl fh,ay rfl rfl dY,az.g (dw (a:=nth aU aq.toNat) underlying5 underlying3 rfl),ju.ix rfl rfl rfl dD,ot rfl rfl cP⟩ ?_
   cases H
   exact .z bt rfl rfl
  ·refine .E 6 rfl (.R func123 results123 rfl ?_)
   cases H
   cases bt
   exact .m rfl (.av _)
theorem tJ {v0:aa} {v1:Element} {r:aa×Bool} (H:mU v0 v1=some r):aB prog 109 [.agg (aa.row v0),.agg (Element.row v1)] (·=.dp [.agg (aa.row r.1),cB r.2]):=by
 refine aB.aS func109 rfl ntmps109 rfl λS hS=>?_
 unfold mU at H
 refine .A 19 [.r 0,.r 1,.r 2] rfl ⟨rfl,rfl,rfl⟩ (.ite H rfl (λH=>?_) (λH=>?_))
 ·obtain ⟨y1,dI,H⟩:=af H
  refine .A 11 [.d (.dp [cS y1.1,cI y1.2])] rfl (ax (en 48 rfl) rfl rfl (yP dI)) (.di (ι:=O uA×O uA) (λ⟨wc,we⟩=>[(2,.ref 0 0),(4,.ref 2 0),(7,.d (cI y1.2))]) (λ⟨wc,we⟩=>⟨[.row 153 [.d (cI v0.source),.d (cI v0.aF),.d (cI v0.kind),.d (cS wc),.d (cS we),.d (cI v0.start),.d (cI v0.aJ),.d (cI v0.call),.d (cI v0.part),.d (cB v0.last),.d (cI v0.bh),.d (cB v0.aP)],.row 211 [.d (cI v1.tag),.d (ag 1 cq v1.value)],.row 153 [.d (cI 0),.d (cI 0),.d (cI 0),.d (cS ([]:O uA)),.d (cS ([]:O uA)),.d (cI 0),.d (cI 0),.d (cI 0),.d (cI 0),.d (cB false),.d (cI 0),.d (cB false)]],[]⟩) (λs=>fS v0 y1 s.1 s.2=some r) ?_ ?_)
  ·rintro ⟨wc,we⟩ H
   replace H:fS v0 y1 wc we=some r:=H
   unfold fS at H
   refine .E 8 rfl (.R func109 results109 rfl ?_)
   cases H
   exact .m rfl (.cZ rfl)
  ·intro ly
   refine .E 6 rfl (.ite H rfl (λH=>?_) (λH=>?_))
   ·exact .E 5 rfl (.z (ly (y1.1,v0.b) H) rfl rfl)
   ·exact .E 5 rfl (.z (ly (v0.a,y1.1) H) rfl rfl)
 ·obtain ⟨y2,gN,H⟩:=af H
  refine .A 8 [.i y2] rfl (ax (en 49 rfl) rfl rfl (yQ gN)) (.di (ι:=Int×Int×Int×Int×Int×Int×Int×Int) (λ⟨dn,kI,kJ,kK,kL,kM,kN,hH⟩=>[(2,.ref 0 0),(3,.ref 1 0),(4,.ref 2 0),(8,.d (cI y2))]) (λ⟨dn,kI,kJ,kK,kL,kM,kN,hH⟩=>⟨[.row 153 [.d (cI dn),.d (cI kI),.d (cI kJ),.d (cS v0.a),.d (cS v0.b),.d (cI kK),.d (cI kL),.d (cI kM),.d (cI kN),.d (cB v0.last),.d (cI hH),.d (cB v0.aP)],.row 211 [.d (cI v1.tag),.d (ag 1 cq v1.value)],.row 153 [.d (cI 0),.d (cI 0),.d (cI 0),.d (cS ([]:O uA)),.d (cS ([]:O uA)),.d (cI 0),.d (cI 0),.d (cI 0),.d (cI 0),.d (cB false),.d (cI 0),.d (cB false)]],[]⟩) (λs=>cj v0 v1 y2 s.1 s.2.1 s.2.2.1 s.2.2.2.1 s.2.2.2.2.1 s.2.2.2.2.2.1 s.2.2.2.2.2.2.1 s.2.2.2.2.2.2.2=some r) ?_ ?_)
  ·rintro ⟨dn,kI,kJ,kK,kL,kM,kN,hH⟩ H
   replace H:cj v0 v1 y2 dn kI kJ kK kL kM kN hH=some r:=H
   unfold cj at H
   refine .E 1 rfl ?_
   refine let z0:fm:=.row 153 [.d (cI dn),.d (cI kI),.d (cI kJ),.d (cS v0.a),.d (cS v0.b),.d (cI kK),.d (cI kL),.d (cI kM),.d (cI kN),.d (cB v0.last),.d (cI hH),.d (cB v0.aP)];let z1:fm:=.row 211 [.d (cI v1.tag),.d (ag 1 cq v1.value)];.xo 9 8 [⟨[z0,z1,.row 153 [.d (cI 0),.d (cI 0),.d (cI 0),.d (cS ([]:O uA)),.d (cS ([]:O uA)),.d (cI 0),.d (cI 0),.d (cI 0),.d (cI 0),.d (cB false),.d (cI 0),.d (cB false)]],[]⟩,⟨[z0,z1,z0],[]⟩] wa (by kernel_rfl) (by decide) rfl ?_
   show nd _ _ _ _ _ _ _ _ _ _ (_::_) _ _
   refine .G (x:=.d (.agg (aa.row (⟨dn,kI,kJ,v0.a,v0.b,kK,kL,kM,kN,v0.last,hH,v0.aP⟩:aa)))) 0 0 ⟨az.g (pR B1 yq rfl rfl (Nat.le_of_ble_eq_true rfl) rfl),trivial⟩ rfl rfl (.G (x:=.d (cI y2)) 0 0 ⟨az.g (cg rfl),trivial⟩ rfl rfl (.G (x:=.d (cB (decide (y2 > 0)))) 0 0 ⟨az.g (JF rfl rfl),trivial⟩ rfl rfl (.G (x:=.d (cB (decide (y2 > 0)))) 0 0 ⟨az.g (cg rfl),trivial⟩ rfl rfl (.eN (b:=decide (y2 > 0)) (x:=.ref 1 0) (env':=[(3,_)]) 0 1 rfl rfl rfl ⟨.inl rfl,trivial⟩ rfl (λhg=>⟨az.g (lF DM rfl),az.g (lF DM rfl),trivial⟩) rfl (by kernel_rfl) (.eN (b:=decide (y2 > 0)) (x:=.d (cI v1.tag)) (env':=[(96,_)]) 0 1 rfl rfl rfl ⟨.inr (.inl rfl),trivial⟩ rfl (λhg=>⟨az.g (fK g9 rfl rfl rfl),az.g (fK g9 rfl rfl rfl),trivial⟩) rfl (by kernel_rfl) (.eN (b:=decide (y2 > 0)) (x:=.d (cB (decide (v1.tag<=11)))) (env':=[(97,_)]) 0 1 rfl rfl rfl ⟨.inr (.inl rfl),trivial⟩ rfl (λhg=>⟨az.g (GJ rfl rfl),az.g (GJ rfl rfl),trivial⟩) rfl (by kernel_rfl) (.G (x:=.d (cB ((decide (y2 > 0)) && (decide (v1.tag<=11))))) 0 1 ⟨az.g (cC rfl rfl rfl),az.g (cC rfl rfl rfl),trivial⟩ rfl rfl (.u 0 (qJ rfl rfl rfl rfl (Nat.le_of_ble_eq_true rfl) yq) rfl rfl rfl rfl (.nil rfl ?_)))))))))
   show cn _ _ _ _ _ _ (_::_) _ _ _
   refine .E 2 rfl (.R func109 results109 rfl ?_)
   cases H
   exact .m rfl (.cZ rfl)
  ·intro ru
   refine .E 11 rfl (.ite H rfl (λH=>?_) (λH=>?_))
   ·exact .E 6 rfl (.z (ru (v0.source,v0.aF,y2,v0.start,v0.aJ,v0.call,v0.part,v0.bh) H) rfl rfl)
   ·refine .E 5 rfl (.ite H rfl (λH=>?_) (λH=>?_))
    ·exact .E 6 rfl (.z (ru (y2,v0.aF,v0.kind,v0.start,v0.aJ,v0.call,v0.part,v0.bh) H) rfl rfl)
    ·refine .E 5 rfl (.ite H rfl (λH=>?_) (λH=>?_))
     ·exact .E 6 rfl (.z (ru (v0.source,y2,v0.kind,v0.start,v0.aJ,v0.call,v0.part,v0.bh) H) rfl rfl)
     ·refine .E 5 rfl (.ite H rfl (λH=>?_) (λH=>?_))
      ·exact .E 6 rfl (.z (ru (v0.source,v0.aF,v0.kind,y2,v0.aJ,v0.call,v0.part,v0.bh) H) rfl rfl)
      ·refine .E 5 rfl (.ite H rfl (λH=>?_) (λH=>?_))
       ·exact .E 6 rfl (.z (ru (v0.source,v0.aF,v0.kind,v0.start,y2,v0.call,v0.part,v0.bh) H) rfl rfl)
       ·refine .E 5 rfl (.ite H rfl (λH=>?_) (λH=>?_))
        ·exact .E 6 rfl (.z (ru (v0.source,v0.aF,v0.kind,v0.start,v0.aJ,y2,v0.part,v0.bh) H) rfl rfl)
        ·refine .E 5 rfl (.ite H rfl (λH=>?_) (λH=>?_))
         ·exact .E 6 rfl (.z (ru (v0.source,v0.aF,v0.kind,v0.start,v0.aJ,v0.call,y2,v0.bh) H) rfl rfl)
         ·refine .E 5 rfl (.ite H rfl (λH=>?_) (λH=>?_))
          ·exact .E 6 rfl (.z (ru (v0.source,v0.aF,v0.kind,v0.start,v0.aJ,v0.call,v0.part,y2) H) rfl rfl)
          ·refine .E 5 rfl (.ite H rfl (λH=>?_) (λH=>?_))
           ·obtain ⟨cA,H⟩:=ab H
            refine .A 33 [.i (Int.tmod y2 2),.i (v1.value.length:Int)] rfl ⟨rfl,rfl,rfl,rfl,ju.n rfl rfl,az.g (vW rfl rfl cA)⟩ (.R func109 results109 rfl ?_)
            cases H
            exact .m rfl (.cZ rfl)
           ·exact .E 2 rfl (.z (ru (v0.source,v0.aF,v0.kind,v0.start,v0.aJ,v0.call,v0.part,v0.bh) H) rfl rfl)
theorem yR {v0:O uA} {r:aa×Int} (H:kU v0=some r):aB prog 92 [ag 1 cq v0] (·=.dp [.agg (aa.row r.1),cI r.2]):=by
 obtain ⟨i5,nR,xr,nS,DY⟩:=u4
 obtain ⟨i153,cH,cW,eB,m5⟩:=jn
 obtain ⟨i211,D7,K1,Hs,Th⟩:=F3
 refine aB.aS func92 rfl ntmps92 rfl λS hS=>?_
 unfold kU at H
 obtain ⟨cA,H⟩:=ab H
 obtain ⟨cP,H⟩:=ab H
 obtain ⟨dD,H⟩:=ab H
 obtain ⟨dY,H⟩:=ab H
 obtain ⟨fh,H⟩:=ab H
 refine .A 29 [.r 0,.p 19,.i (v0.length:Int),.i (v0.length:Int),.i ((v0.length:Int) - 2),.d (.ro (cq (nth v0 (Int.toNat (0))))),.i ((nth v0 (Int.toNat (0))).toNat:Int),.i (((nth v0 (Int.toNat (0))).toNat:Int)*256),.d (.ro (cq (nth v0 (Int.toNat (1))))),.i ((nth v0 (Int.toNat (1))).toNat:Int),.i ((((nth v0 (Int.toNat (0))).toNat:Int)*256)+((nth v0 (Int.toNat (1))).toNat:Int))] rfl ⟨rfl,rfl,rfl,λhg=>ay rfl rfl (fh hg),rfl,rfl,λhg=>az.g (dw (a:=nth v0 (Int.toNat (1))) underlying5 underlying3 rfl),rfl,rfl,λhg=>ju.ix rfl rfl rfl (dY hg),rfl,λhg=>ot rfl rfl (dD hg),rfl,λhg=>az.g (dw (a:=nth v0 (Int.toNat (0))) underlying5 underlying3 rfl),rfl,rfl,λhg=>ju.ix rfl rfl rfl (cP hg),rfl,λhg=>gZ rfl rfl (cA hg),rfl,λhg=>ju.n rfl rfl,rfl,ju.n rfl rfl,(show _=true by kernel_rfl)⟩ (.ite H rfl (λH=>?_) (λH=>?_))
 ·refine .A 6 [.d (.agg (aa.row kq5))] rfl (az.g (aK jo cH cW rfl rfl)) (.R func92 results92 rfl ?_)
  cases H
  exact .m rfl (.cZ rfl)
 ·obtain ⟨gM,H⟩:=ab H
  obtain ⟨jX,H⟩:=ab H
  obtain ⟨mb,H⟩:=ab H
  obtain ⟨pM,H⟩:=ab H
  obtain ⟨gO,H⟩:=ab H
  refine .A 20 [.p 14,.i (v0.length:Int),.i ((v0.length:Int) - 2),.d (.ro (cq (nth v0 (Int.toNat (0))))),.i ((nth v0 (Int.toNat (0))).toNat:Int),.i (((nth v0 (Int.toNat (0))).toNat:Int)*256),.d (.ro (cq (nth v0 (Int.toNat (1))))),.i ((nth v0 (Int.toNat (1))).toNat:Int),.i ((((nth v0 (Int.toNat (0))).toNat:Int)*256)+((nth v0 (Int.toNat (1))).toNat:Int))] rfl ⟨ay rfl rfl gO,az.g (dw (a:=nth v0 (Int.toNat (1))) underlying5 underlying3 rfl),ju.ix rfl rfl rfl pM,ot rfl rfl mb,az.g (dw (a:=nth v0 (Int.toNat (0))) underlying5 underlying3 rfl),ju.ix rfl rfl rfl jX,gZ rfl rfl gM,ju.n rfl rfl,(show _=true by kernel_rfl)⟩ (.ite H rfl (λH=>?_) (λH=>?_))
  ·refine .A 6 [.d (.agg (aa.row kq5))] rfl (az.g (aK jo cH cW rfl rfl)) (.R func92 results92 rfl ?_)
   cases H
   exact .m rfl (.cZ rfl)
  ·obtain ⟨m4,H⟩:=ab H
   obtain ⟨y1,dI,H⟩:=af H
   refine .A 18 [.d (ag 1 cq (v0.drop ((2:Int)).toNat)),.d (.dp [ag 2 Element.row y1.1,cI y1.2])] rfl ⟨ax (en 50 rfl) rfl rfl (wg dI),az.g (ye (l:=v0) (row:=cq) underlying84 nR nS rfl rfl rfl m4)⟩ (.ite H rfl (λH=>?_) (λH=>?_))
   ·refine .A 7 [.d (.agg (aa.row kq5))] rfl (az.g (aK jo cH cW rfl rfl)) (.R func92 results92 rfl ?_)
    cases H
    exact .m rfl (.cZ rfl)
   ·refine .A 13 [.d (.agg (aa.row kq5)),.r 1] rfl (az.g (aK jo cH cW rfl rfl)) (.bw (ι:=Bool×Int×Int×Int×O uA×O uA×Int×Int×Int×Int×Bool×Int×Bool) (λ⟨ct,kO,kP,kQ,kR,cU,kS,kT,uj,uk,um,hO,hP⟩=>[(2,.ref 0 0),(6,.ref 1 0),(7,.d (cB ct))]) (λ⟨ct,kO,kP,kQ,kR,cU,kS,kT,uj,uk,um,hO,hP⟩=>⟨[.row 153 [.d (cI 0),.d (cI 0),.d (cI 0),.d (cS ([]:O uA)),.d (cS ([]:O uA)),.d (cI 0),.d (cI 0),.d (cI 0),.d (cI 0),.d (cB false),.d (cI 0),.d (cB false)],.row 153 [.d (cI kO),.d (cI kP),.d (cI kQ),.d (cS kR),.d (cS cU),.d (cI kS),.d (cI kT),.d (cI uj),.d (cI uk),.d (cB um),.d (cI hO),.d (cB hP)]],[]⟩) (λs=>gH s.1 s.2.1 s.2.2.1 s.2.2.2.1 s.2.2.2.2.1 s.2.2.2.2.2.1 s.2.2.2.2.2.2.1 s.2.2.2.2.2.2.2.1 s.2.2.2.2.2.2.2.2.1 s.2.2.2.2.2.2.2.2.2.1 s.2.2.2.2.2.2.2.2.2.2.1 s.2.2.2.2.2.2.2.2.2.2.2.1 s.2.2.2.2.2.2.2.2.2.2.2.2=some r) ?_ ?_)
    ·rintro ⟨ct,kO,kP,kQ,kR,cU,kS,kT,uj,uk,um,hO,hP⟩ H
     replace H:gH ct kO kP kQ kR cU kS kT uj uk um hO hP=some r:=H
     unfold gH at H
     refine .E 6 rfl (.ite H rfl (λH=>?_) (λH=>?_))
     ·refine .A 6 [.d (.agg (aa.row kq5))] rfl (az.g (aK jo cH cW rfl rfl)) (.R func92 results92 rfl ?_)
      cases H
      exact .m rfl (.cZ rfl)
     ·obtain ⟨y2,gN,H⟩:=af H
      refine .A 13 [.i y2] rfl (ax (en 41 rfl) rfl rfl (jL gN)) (.ite H rfl (λH=>?_) (λH=>?_))
      ·refine .A 7 [.d (.agg (aa.row kq5))] rfl (az.g (aK jo cH cW rfl rfl)) (.R func92 results92 rfl ?_)
       cases H
       exact .m rfl (.cZ rfl)
      ·refine .E 7 rfl (.R func92 results92 rfl ?_)
       cases H
       exact .m rfl (.cZ rfl)
    ·intro ly eF
     refine .lp H (λ⟨aW,bu,ch,bz,bA,bP,bQ,bR,fT,rk,rl,rm,fM,fN⟩=>[(2,.ref 0 0),(4,.d (ag 2 Element.row y1.1)),(6,.ref 1 0),(7,.d (cB aW)),(8,.d (cI bu))]) (λ⟨aW,bu,ch,bz,bA,bP,bQ,bR,fT,rk,rl,rm,fM,fN⟩=>⟨[.row 153 [.d (cI 0),.d (cI 0),.d (cI 0),.d (cS ([]:O uA)),.d (cS ([]:O uA)),.d (cI 0),.d (cI 0),.d (cI 0),.d (cI 0),.d (cB false),.d (cI 0),.d (cB false)],.row 153 [.d (cI ch),.d (cI bz),.d (cI bA),.d (cS bP),.d (cS bQ),.d (cI bR),.d (cI fT),.d (cI rk),.d (cI rl),.d (cB rm),.d (cI fM),.d (cB fN)]],[]⟩) (.k5 rfl rfl rfl rfl rfl (.nil)) rfl ?_
     rintro ⟨aW,bu,ch,bz,bA,bP,bQ,bR,fT,rk,rl,rm,fM,fN⟩ q1 H bt
     dsimp only at H
     unfold gI at H
     refine .A 8 [.i (y1.1.length:Int)] rfl (S7.n rfl rfl) (.ite H rfl (λH=>?_) (λH=>?_))
     ·refine .E 4 rfl ?_
      obtain ⟨nk,H⟩:=ab H
      obtain ⟨y3,mA,H⟩:=af H
      refine let z0:fm:=.row 153 [.d (cI 0),.d (cI 0),.d (cI 0),.d (cS ([]:O uA)),.d (cS ([]:O uA)),.d (cI 0),.d (cI 0),.d (cI 0),.d (cI 0),.d (cB false),.d (cI 0),.d (cB false)];let z1:fm:=.row 153 [.d (cI ch),.d (cI bz),.d (cI bA),.d (cS bP),.d (cS bQ),.d (cI bR),.d (cI fT),.d (cI rk),.d (cI rl),.d (cB rm),.d (cI fM),.d (cB fN)];.M1 11 9 10 [⟨[z0,z1],[]⟩,⟨[z0,z1,z0],[]⟩,⟨[z0,z1,.row 153 [.d (cI y3.1.source),.d (cI y3.1.aF),.d (cI y3.1.kind),.d (cS y3.1.a),.d (cS y3.1.b),.d (cI y3.1.start),.d (cI y3.1.aJ),.d (cI y3.1.call),.d (cI y3.1.part),.d (cB y3.1.last),.d (cI y3.1.bh),.d (cB y3.1.aP)]],[]⟩] wa (by kernel_rfl) (by decide) (by decide) (by kernel_rfl) rfl ?_
      show nd _ _ _ _ _ _ _ _ _ _ (_::_) _ _
      refine .G (x:=.d (.agg (aa.row (⟨ch,bz,bA,bP,bQ,bR,fT,rk,rl,rm,fM,fN⟩:aa)))) 0 1 ⟨az.g (pR B1 yq rfl rfl (Nat.le_of_ble_eq_true rfl) rfl),az.g (pR B1 yq rfl rfl (Nat.le_of_ble_eq_true rfl) rfl),trivial⟩ rfl rfl (.G (x:=.d (ag 2 Element.row y1.1)) 0 1 ⟨az.g (cg rfl),az.g (cg rfl),trivial⟩ rfl rfl (.G (x:=.d (cI bu)) 0 1 ⟨az.g (cg rfl),az.g (cg rfl),trivial⟩ rfl rfl (.G (x:=.d (.ro (Element.row (nth y1.1 bu.toNat)))) 0 1 ⟨az.g (dF (row:=Element.row) (l:=y1.1) (i:=bu) underlying206 D7 Hs rfl rfl rfl nk),az.g (dF (row:=Element.row) (l:=y1.1) (i:=bu) underlying206 D7 Hs rfl rfl rfl nk),trivial⟩ rfl rfl (.G (x:=.d (.agg (Element.row (nth y1.1 bu.toNat)))) 0 1 ⟨az.g (vS Hl KM rfl rfl),az.g (vS Hl KM rfl rfl),trivial⟩ rfl rfl (.G (x:=.d (.dp [.agg (aa.row y3.1),cB y3.2])) 0 1 ⟨(ax (en 51 rfl) rfl rfl (tJ mA)),(ax (en 51 rfl) rfl rfl (tJ mA)),trivial⟩ rfl rfl (.G (x:=.d (.dp [.agg (aa.row y3.1),cB y3.2])) 0 1 ⟨az.g (cg rfl),az.g (cg rfl),trivial⟩ rfl rfl (.G (x:=.d (.agg (aa.row y3.1))) 0 1 ⟨az.g (iY rfl rfl),az.g (iY rfl rfl),trivial⟩ rfl rfl (.G (x:=.d (cB y3.2)) 0 2 ⟨az.g (iY rfl rfl),az.g (iY rfl rfl),az.g (iY rfl rfl),trivial⟩ rfl rfl (.v (x:=.ref 2 0) 0 (o8 F6 rfl) rfl rfl rfl rfl (.u 1 (qJ rfl rfl rfl rfl (Nat.le_of_ble_eq_true rfl) yq) rfl rfl rfl rfl (.nil rfl ?_)))))))))))
      show cn _ _ _ _ _ _ (_::_) _ _ _
      obtain ⟨rV,H⟩:=ab H
      refine .A 17 [.i (bu+1)] rfl ⟨ay rfl rfl rV,rfl⟩ ?_
      cases H
      exact .t 2 0 bt rfl rfl rfl rfl rfl hS rfl
     ·refine .E 1 rfl ?_
      obtain ⟨q0,H9,lz⟩:=bK H;clear H;cases lz
      cases bt
      have H:=H9
      exact .z (eF (aW,ch,bz,bA,bP,bQ,bR,fT,rk,rl,rm,fM,fN) H) rfl rfl
theorem D8 {v0:O uA} {r:(O aa)×(O aj)×Int} (H:qd v0=some r):aB prog 81 [ag 1 cq v0] (·=.dp [ag 12 aa.row r.1,ag 4 aj.row r.2.1,cI r.2.2]):=by
 obtain ⟨i5,nR,xr,nS,DY⟩:=u4
 obtain ⟨i153,cH,cW,eB,m5⟩:=jn
 obtain ⟨i178,nt,pq,rN,A7⟩:=ue
 refine aB.aS func81 rfl ntmps81 rfl λS hS=>?_
 unfold qd at H
 refine .E 23 rfl (.tok (i:=5) (e:=153) (sz:=12) rfl (.tok (i:=6) (e:=178) (sz:=4) rfl (.bw (ι:=O aa×O aj) (λ⟨u7,kE⟩=>[(5,.bX 12 (u7.map aa.row) 0),(6,.bX 4 (kE.map aj.row) 1)]) (λ⟨u7,kE⟩=>⟨[],[dh u7.length,jb kE.length]⟩) (λs=>nE s.1 s.2=some r) ?_ ?_)))
 ·rintro ⟨u7,kE⟩ H
  replace H:nE u7 kE=some r:=H
  unfold nE at H
  refine .E 8 rfl (.R func81 results81 rfl ?_)
  cases H
  exact .m rfl (.eP ⟨.bX _ _ _,.bX _ _ _,.av _,trivial⟩)
 ·intro ly eF
  refine .lp H (λ⟨da,bc,aW,bu⟩=>[(0,.d (ag 1 cq v0)),(5,.bX 12 (da.map aa.row) 0),(6,.bX 4 (bc.map aj.row) 1),(7,.d (cI aW)),(8,.d (cI bu))]) (λ⟨da,bc,aW,bu⟩=>⟨[],[dh da.length,jb bc.length]⟩) (.k5 rfl rfl rfl rfl rfl (.nil)) rfl ?_
  rintro ⟨da,bc,aW,bu⟩ q1 H bt
  dsimp only at H
  unfold nF at H
  refine .A 8 [.i (v0.length:Int)] rfl (ju.n rfl rfl) (.ite H rfl (λH=>?_) (λH=>?_))
  ·refine .E 9 rfl (.ite H rfl (λH=>?_) (λH=>?_))
   ·refine .E 6 rfl (.R func81 results81 rfl ?_)
    cases H
    cases bt
    exact .m rfl (.eP ⟨.nil 12,.nil 4,.av _,trivial⟩)
   ·obtain ⟨cA,H⟩:=ab H
    obtain ⟨cP,H⟩:=ab H
    obtain ⟨dD,H⟩:=ab H
    obtain ⟨dY,H⟩:=ab H
    obtain ⟨fh,H⟩:=ab H
    obtain ⟨gM,H⟩:=ab H
    obtain ⟨jX,H⟩:=ab H
    obtain ⟨mb,H⟩:=ab H
    refine .A 32 [.p 26,.i (aW+2),.i (v0.length:Int),.i (aW+2),.d (.ro (cq (nth v0 aW.toNat))),.i ((nth v0 aW.toNat).toNat:Int),.i (((nth v0 aW.toNat).toNat:Int)*256),.i ((aW+2)+(((nth v0 aW.toNat).toNat:Int)*256)),.i (aW+1),.d (.ro (cq (nth v0 (aW+1).toNat))),.i ((nth v0 (aW+1).toNat).toNat:Int),.i (((aW+2)+(((nth v0 aW.toNat).toNat:Int)*256))+((nth v0 (aW+1).toNat).toNat:Int)),.i (v0.length:Int)] rfl ⟨rfl,rfl,rfl,λhg=>ju.n rfl rfl,rfl,λhg=>ay rfl rfl (mb hg),rfl,rfl,λhg=>az.g (dw (a:=nth v0 (aW+1).toNat) underlying5 underlying3 rfl),rfl,rfl,λhg=>ju.ix rfl rfl rfl (jX hg),rfl,rfl,λhg=>ay rfl rfl (gM hg),rfl,λhg=>ay rfl rfl (fh hg),rfl,rfl,λhg=>ot rfl rfl (dY hg),rfl,λhg=>az.g (dw (a:=nth v0 aW.toNat) underlying5 underlying3 rfl),rfl,rfl,λhg=>ju.ix rfl rfl rfl (dD hg),rfl,rfl,λhg=>ay rfl rfl (cP hg),rfl,ju.n rfl rfl,ay rfl rfl cA,(show _=true by kernel_rfl)⟩ (.ite H rfl (λH=>?_) (λH=>?_))
    ·refine .E 6 rfl (.R func81 results81 rfl ?_)
     cases H
     cases bt
     exact .m rfl (.eP ⟨.nil 12,.nil 4,.av _,trivial⟩)
    ·obtain ⟨pM,H⟩:=ab H
     obtain ⟨gO,H⟩:=ab H
     obtain ⟨m4,H⟩:=ab H
     obtain ⟨nk,H⟩:=ab H
     obtain ⟨rV,H⟩:=ab H
     obtain ⟨vm,H⟩:=ab H
     obtain ⟨Ao,H⟩:=ab H
     refine .A 22 [.p 17,.i (aW+2),.d (.ro (cq (nth v0 aW.toNat))),.i ((nth v0 aW.toNat).toNat:Int),.i (((nth v0 aW.toNat).toNat:Int)*256),.i ((aW+2)+(((nth v0 aW.toNat).toNat:Int)*256)),.i (aW+1),.d (.ro (cq (nth v0 (aW+1).toNat))),.i ((nth v0 (aW+1).toNat).toNat:Int),.i (((aW+2)+(((nth v0 aW.toNat).toNat:Int)*256))+((nth v0 (aW+1).toNat).toNat:Int))] rfl ⟨ay rfl rfl Ao,az.g (dw (a:=nth v0 (aW+1).toNat) underlying5 underlying3 rfl),ju.ix rfl rfl rfl vm,ay rfl rfl rV,ay rfl rfl nk,ot rfl rfl m4,az.g (dw (a:=nth v0 aW.toNat) underlying5 underlying3 rfl),ju.ix rfl rfl rfl gO,ay rfl rfl pM,(show _=true by kernel_rfl)⟩ (.di (ι:=O aa×O aj×Int×Int×Int×O uA×O uA×Int×Int×Int×Int×Bool×Int×Bool) (λ⟨bB,F9,dn,kI,kJ,yD,yE,kK,kL,kM,kN,yF,hH,va⟩=>[(0,.d (ag 1 cq v0)),(5,.bX 12 (bB.map aa.row) 0),(6,.bX 4 (F9.map aj.row) 1),(8,.d (cI bu)),(9,.d (cI (((aW+2)+(((nth v0 aW.toNat).toNat:Int)*256))+((nth v0 (aW+1).toNat).toNat:Int))))]) (λ⟨bB,F9,dn,kI,kJ,yD,yE,kK,kL,kM,kN,yF,hH,va⟩=>⟨[.row 153 [.d (cI dn),.d (cI kI),.d (cI kJ),.d (cS yD),.d (cS yE),.d (cI kK),.d (cI kL),.d (cI kM),.d (cI kN),.d (cB yF),.d (cI hH),.d (cB va)]],[dh bB.length,jb F9.length]⟩) (λs=>gx v0 aW bu s.1 s.2.1 s.2.2.1 s.2.2.2.1 s.2.2.2.2.1 s.2.2.2.2.2.1 s.2.2.2.2.2.2.1 s.2.2.2.2.2.2.2.1 s.2.2.2.2.2.2.2.2.1 s.2.2.2.2.2.2.2.2.2.1 s.2.2.2.2.2.2.2.2.2.2.1 s.2.2.2.2.2.2.2.2.2.2.2.1 s.2.2.2.2.2.2.2.2.2.2.2.2.1 s.2.2.2.2.2.2.2.2.2.2.2.2.2=some q1) ?_ ?_)
     ·rintro ⟨bB,F9,dn,kI,kJ,yD,yE,kK,kL,kM,kN,yF,hH,va⟩ H
      replace H:gx v0 aW bu bB F9 dn kI kJ yD yE kK kL kM kN yF hH va=some q1:=H
      unfold gx at H
      obtain ⟨Ap,H⟩:=ab H
      refine .A 10 [.i (bu+1)] rfl (ay rfl rfl Ap) ?_
      cases H
      exact .t 0 2 bt rfl rfl rfl rfl rfl hS rfl
     ·intro ru
      obtain ⟨D3,H⟩:=ab H
      obtain ⟨y1,dI,H⟩:=af H
      refine .A 19 [.d (ag 1 cq ((v0.take (((aW+2)+(((nth v0 aW.toNat).toNat:Int)*256))+((nth v0 (aW+1).toNat).toNat:Int)).toNat).drop aW.toNat)),.d (.dp [.agg (aa.row y1.1),cI y1.2]),.r 0] rfl ⟨ax (en 52 rfl) rfl rfl (yR dI),az.g (qR (l:=v0) (row:=cq) underlying84 nR nS rfl rfl rfl rfl D3)⟩ (.ite H rfl (λH=>?_) (λH=>?_))
      ·obtain ⟨D4,H⟩:=ab H
       exact .A 7 [.d (ag 12 aa.row ([y1.1]:O aa)),.a 0 153 12 aa.row (da++([y1.1]:O aa))] rfl ⟨lC.a rfl rfl rfl rfl D4,aC underlying27 cH eB cW rfl rfl rfl rfl rfl⟩ (.z (ru (da++([y1.1]:O aa),bc,y1.1.source,y1.1.aF,y1.1.kind,y1.1.a,y1.1.b,y1.1.start,y1.1.aJ,y1.1.call,y1.1.part,y1.1.last,y1.1.bh,y1.1.aP) H) rfl rfl)
      ·obtain ⟨D5,H⟩:=ab H
       exact .A 9 [.d (.agg (aj.row (⟨0,0,bu,y1.2⟩:aj))),.d (ag 4 aj.row ([(⟨0,0,bu,y1.2⟩:aj)]:O aj)),.a 1 178 4 aj.row (bc++([(⟨0,0,bu,y1.2⟩:aj)]:O aj))] rfl ⟨O0.a rfl rfl rfl rfl D5,aC underlying32 nt rN pq rfl rfl rfl rfl rfl,az.g (aK B2 nt pq rfl rfl)⟩ (.z (ru (da,bc++([(⟨0,0,bu,y1.2⟩:aj)]:O aj),y1.1.source,y1.1.aF,y1.1.kind,y1.1.a,y1.1.b,y1.1.start,y1.1.aJ,y1.1.call,y1.1.part,y1.1.last,y1.1.bh,y1.1.aP) H) rfl rfl)
  ·refine .E 1 rfl ?_
   obtain ⟨q0,H9,lz⟩:=bK H;clear H;cases lz
   cases bt
   have H:=H9
   exact .z (eF (da,bc) H) rfl rfl
theorem D9 {aU:O uA} {r:uA} (H:qe aU=some r):aB prog 110 [ag 1 cq aU] (·=uW r):=by
 refine aB.aS func110 rfl ntmps110 rfl λS hS=>?_
 unfold qe at H
 refine .E 14 rfl (.lp H (λ⟨bU,aq⟩=>[(0,.d (ag 1 cq aU)),(3,.d (cI bU)),(4,.d (cI aq))]) (λ⟨bU,aq⟩=>⟨[],[]⟩) (.k3 rfl rfl rfl (.nil)) rfl ?_)
 rintro ⟨bU,aq⟩ q1 H bt
 dsimp only at H
 unfold rn at H
 refine .A 8 [.i (aU.length:Int)] rfl (ju.n rfl rfl) (.ite H rfl (λH=>?_) (λH=>?_))
 ·obtain ⟨cA,H⟩:=ab H
  obtain ⟨cP,H⟩:=ab H
  obtain ⟨dD,H⟩:=ab H
  obtain ⟨dY,H⟩:=ab H
  refine .A 20 [.d (.ro (cq (nth aU aq.toNat))),.i ((nth aU aq.toNat).toNat:Int),.i (bU+((nth aU aq.toNat).toNat:Int)),.i (Int.tmod (bU+((nth aU aq.toNat).toNat:Int)) 256),.i (aq+1)] rfl ⟨ay rfl rfl dY,az.g (vW rfl rfl dD),ay rfl rfl cP,az.g (dw (a:=nth aU aq.toNat) underlying5 underlying3 rfl),ju.ix rfl rfl rfl cA⟩ ?_
  cases H
  exact .z bt rfl rfl
 ·refine .A 7 [.c (UInt8.ofInt bU)] rfl (az.g (xm underlying3 underlying5 rfl)) (.R func110 results110 rfl ?_)
  cases H
  cases bt
  exact .m rfl (.av _)
theorem xb {aU:O uA} {r:Int×Int} (H:jF aU=some r):aB prog 111 [ag 1 cq aU] (·=.dp [cI r.1,cI r.2]):=by
 refine aB.aS func111 rfl ntmps111 rfl λS hS=>?_
 unfold jF at H
 refine .A 17 [.i (aU.length:Int),.i (aU.length:Int)] rfl ⟨rfl,rfl,λhg=>ju.n rfl rfl,rfl,ju.n rfl rfl⟩ (.ite H rfl (λH=>?_) (λH=>?_))
 ·refine .E 5 rfl (.R func111 results111 rfl ?_)
  cases H
  exact .m rfl (.cZ rfl)
 ·refine .E 11 rfl (.lp H (λ⟨rJ,ak⟩=>[(0,.d (ag 1 cq aU)),(4,.d (cI rJ)),(5,.d (cI ak))]) (λ⟨rJ,ak⟩=>⟨[],[]⟩) (.k3 rfl rfl rfl (.nil)) rfl ?_)
  rintro ⟨rJ,ak⟩ q1 H bt
  dsimp only at H
  unfold lX at H
  refine .A 8 [.i (aU.length:Int)] rfl (ju.n rfl rfl) (.ite H rfl (λH=>?_) (λH=>?_))
  ·obtain ⟨cA,H⟩:=ab H
   obtain ⟨cP,H⟩:=ab H
   obtain ⟨dD,H⟩:=ab H
   obtain ⟨dY,H⟩:=ab H
   refine .A 21 [.d (.ro (cq (nth aU ak.toNat))),.c ((nth aU ak.toNat) / 16),.b (decide (((nth aU ak.toNat) / 16) > 9)),.d (.ro (cq (nth aU ak.toNat))),.c ((nth aU ak.toNat) % 16),.b (decide (((nth aU ak.toNat) % 16) > 9))] rfl ⟨rfl,λhg=>az.g (sg (a:=(nth aU ak.toNat) % 16) (b:=9) rfl rfl),rfl,λhg=>az.g (si (a:=nth aU ak.toNat) (b:=16) rfl rfl (dY hg)),rfl,rfl,λhg=>ju.ix rfl rfl rfl (dD hg),rfl,rfl,az.g (sg (a:=(nth aU ak.toNat) / 16) (b:=9) rfl rfl),az.g (vV (a:=nth aU ak.toNat) (b:=16) rfl rfl cP),ju.ix rfl rfl rfl cA⟩ (.ite H rfl (λH=>?_) (λH=>?_))
   ·refine .E 5 rfl (.R func111 results111 rfl ?_)
    cases H
    cases bt
    exact .m rfl (.cZ rfl)
   ·obtain ⟨fh,H⟩:=ab H
    obtain ⟨gM,H⟩:=ab H
    obtain ⟨jX,H⟩:=ab H
    obtain ⟨mb,H⟩:=ab H
    obtain ⟨pM,H⟩:=ab H
    obtain ⟨gO,H⟩:=ab H
    obtain ⟨m4,H⟩:=ab H
    obtain ⟨nk,H⟩:=ab H
    obtain ⟨rV,H⟩:=ab H
    refine .A 28 [.p 18,.i (rJ*100),.d (.ro (cq (nth aU ak.toNat))),.c ((nth aU ak.toNat) / 16),.i (((nth aU ak.toNat) / 16).toNat:Int),.i ((((nth aU ak.toNat) / 16).toNat:Int)*10),.i ((rJ*100)+((((nth aU ak.toNat) / 16).toNat:Int)*10)),.d (.ro (cq (nth aU ak.toNat))),.c ((nth aU ak.toNat) % 16),.i (((nth aU ak.toNat) % 16).toNat:Int),.i (((rJ*100)+((((nth aU ak.toNat) / 16).toNat:Int)*10))+(((nth aU ak.toNat) % 16).toNat:Int)),.i (ak+1)] rfl ⟨ay rfl rfl rV,ay rfl rfl nk,az.g (dw (a:=(nth aU ak.toNat) % 16) underlying5 underlying3 rfl),az.g (si (a:=nth aU ak.toNat) (b:=16) rfl rfl m4),ju.ix rfl rfl rfl gO,ay rfl rfl pM,ot rfl rfl mb,az.g (dw (a:=(nth aU ak.toNat) / 16) underlying5 underlying3 rfl),az.g (vV (a:=nth aU ak.toNat) (b:=16) rfl rfl jX),ju.ix rfl rfl rfl gM,ot rfl rfl fh,(show _=true by kernel_rfl)⟩ ?_
    cases H
    exact .z bt rfl rfl
  ·refine .E 7 rfl (.R func111 results111 rfl ?_)
   cases H
   cases bt
   exact .m rfl (.cZ rfl)
theorem vq {aU:O uA} {r:(O uA)×Bool} (H:lY aU=some r):aB prog 112 [ag 1 cq aU] (·=.dp [cS r.1,cB r.2]):=by
 obtain ⟨i5,nR,xr,nS,DY⟩:=u4
 refine aB.aS func112 rfl ntmps112 rfl λS hS=>?_
 unfold lY at H
 obtain ⟨cA,H⟩:=ab H
 obtain ⟨cP,H⟩:=ab H
 refine .A 21 [.d (.ro (cq (nth aU (Int.toNat (0))))),.c ((nth aU (Int.toNat (0))) / 16),.i (((nth aU (Int.toNat (0))) / 16).toNat:Int)] rfl ⟨az.g (dw (a:=(nth aU (Int.toNat (0))) / 16) underlying5 underlying3 rfl),az.g (vV (a:=nth aU (Int.toNat (0))) (b:=16) rfl rfl cP),ju.ix rfl rfl rfl cA⟩ (.lp H (λ⟨oG,dt⟩=>[(0,.d (ag 1 cq aU)),(4,.d (cI (((nth aU (Int.toNat (0))) / 16).toNat:Int))),(5,.d (cS oG)),(6,.d (cI dt))]) (λ⟨oG,dt⟩=>⟨[],[]⟩) (.k4 rfl rfl rfl rfl (.nil)) rfl ?_)
 rintro ⟨oG,dt⟩ q1 H bt
 dsimp only at H
 unfold pG at H
 refine .E 6 rfl (.ite H rfl (λH=>?_) (λH=>?_))
 ·obtain ⟨dD,H⟩:=ab H
  obtain ⟨dY,H⟩:=ab H
  obtain ⟨fh,H⟩:=ab H
  refine .A 13 [.i (Int.tdiv dt 2),.d (.ro (cq (nth aU (Int.tdiv dt 2).toNat))),.c ((nth aU (Int.tdiv dt 2).toNat) / 16)] rfl ⟨az.g (vV (a:=nth aU (Int.tdiv dt 2).toNat) (b:=16) rfl rfl fh),ju.ix rfl rfl rfl dY,az.g (tV rfl rfl dD)⟩ (.di (ι:=uA) (λkV=>[(0,.d (ag 1 cq aU)),(4,.d (cI (((nth aU (Int.toNat (0))) / 16).toNat:Int))),(5,.d (cS oG)),(6,.d (cI dt)),(7,.d (uW kV))]) (λkV=>⟨[],[]⟩) (λs=>eJ aU oG dt s=some q1) ?_ ?_)
  ·rintro kV H
   replace H:eJ aU oG dt kV=some q1:=H
   unfold eJ at H
   refine .B 17 [.b (decide (kV > 9)),.b (kV != 0)] rfl ⟨λhg=>az.g (yd (a:=kV) (b:=0) rfl rfl),rfl,rfl,rfl,rfl,rfl,λhg=>az.g (sg (a:=kV) (b:=9) rfl rfl),rfl⟩ (.eN (env':=[(43,_),(45,_)]) rfl rfl rfl ⟨.inr (.inl rfl),⟨.inr (.inr ⟨_,_,rfl,rfl⟩),trivial⟩⟩ rfl (λhg=>az.g (cC rfl rfl rfl)) (.A 2 [] rfl rfl (.ite H rfl (λH=>?_) (λH=>?_))))
   ·refine .E 5 rfl (.R func112 results112 rfl ?_)
    cases H
    cases bt
    exact .m rfl (.cZ rfl)
   ·refine .E 7 rfl (.ite H rfl (λH=>?_) (λH=>?_))
    ·obtain ⟨gM,H⟩:=ab H
     obtain ⟨jX,H⟩:=ab H
     refine .A 15 [.c (48+kV),.d (ag 1 cq ([48+kV]:O uA)),.s ([48+kV]:O uA),.s (oG++([48+kV]:O uA)),.i (dt+1)] rfl ⟨ay rfl rfl jX,az.g (dM rfl rfl gM),az.g (iu (a:=([48+kV]:O uA)) underlying84 underlying5 underlying9 rfl rfl),aC underlying84 nR nS xr rfl rfl rfl rfl rfl,az.g (FM (a:=48) (b:=kV) rfl rfl)⟩ ?_
     cases H
     exact .z bt rfl rfl
    ·obtain ⟨mb,H⟩:=ab H
     refine .A 7 [.i (dt+1)] rfl (ay rfl rfl mb) ?_
     cases H
     exact .z bt rfl rfl
  ·intro ly
   obtain ⟨pM,H⟩:=ab H
   refine .A 6 [.i (Int.tmod dt 2)] rfl (az.g (vW rfl rfl pM)) (.ite H rfl (λH=>?_) (λH=>?_))
   ·obtain ⟨gO,H⟩:=ab H
    obtain ⟨m4,H⟩:=ab H
    obtain ⟨nk,H⟩:=ab H
    exact .A 9 [.i (Int.tdiv dt 2),.d (.ro (cq (nth aU (Int.tdiv dt 2).toNat))),.c ((nth aU (Int.tdiv dt 2).toNat) % 16)] rfl ⟨az.g (si (a:=nth aU (Int.tdiv dt 2).toNat) (b:=16) rfl rfl nk),ju.ix rfl rfl rfl m4,az.g (tV rfl rfl gO)⟩ (.z (ly ((nth aU (Int.tdiv dt 2).toNat) % 16) H) rfl rfl)
   ·exact .E 1 rfl (.z (ly ((nth aU (Int.tdiv dt 2).toNat) / 16) H) rfl rfl)
 ·refine .E 7 rfl (.R func112 results112 rfl ?_)
  cases H
  cases bt
  exact .m rfl (.cZ rfl)
theorem yS {v0:O uA} {r:aa×Int} (H:kW v0=some r):aB prog 93 [ag 1 cq v0] (·=.dp [.agg (aa.row r.1),cI r.2]):=by
 obtain ⟨i3,ji,rL,mc,Fp⟩:=u3
 obtain ⟨i5,nR,xr,nS,DY⟩:=u4
 obtain ⟨i153,cH,cW,eB,m5⟩:=jn
 refine aB.aS func93 rfl ntmps93 rfl λS hS=>?_
 unfold kW at H
 refine .A 16 [.r 0,.r 1,.i (v0.length:Int)] rfl (ju.n rfl rfl) (.ite H rfl (λH=>?_) (λH=>?_))
 ·refine .E 6 rfl (.R func93 results93 rfl ?_)
  cases H
  exact .m rfl (.cZ rfl)
 ·refine .A 8 [.i (v0.length:Int)] rfl (ju.n rfl rfl) (.ite H rfl (λH=>?_) (λH=>?_))
  ·refine .E 6 rfl (.R func93 results93 rfl ?_)
   cases H
   exact .m rfl (.cZ rfl)
  ·obtain ⟨cA,H⟩:=ab H
   obtain ⟨y1,dI,H⟩:=af H
   obtain ⟨cP,H⟩:=ab H
   refine .A 13 [.p 7,.d (ag 1 cq (v0.take ((44:Int)).toNat)),.c y1,.d (.ro (cq (nth v0 (Int.toNat (44))))),.b (y1 != (nth v0 (Int.toNat (44))))] rfl ⟨az.g (yd (a:=y1) (b:=nth v0 (Int.toNat (44))) rfl rfl),ju.ix rfl rfl rfl cP,ax (en 53 rfl) rfl rfl (D9 dI),az.g (FN (l:=v0) (row:=cq) underlying84 nR nS rfl rfl rfl cA),(show _=true by kernel_rfl)⟩ (.ite H rfl (λH=>?_) (λH=>?_))
   ·refine .E 6 rfl (.R func93 results93 rfl ?_)
    cases H
    exact .m rfl (.cZ rfl)
   ·obtain ⟨dD,H⟩:=ab H
    obtain ⟨dY,H⟩:=ab H
    refine .A 29 [.d (ag 1 rI ([0,1,23,29,36,41,42]:O Int)),.d (ag 1 rI ([1,6,29,36,41,42,44]:O Int)),.d (.ro (cq (nth v0 (Int.toNat (6))))),.c ((nth v0 (Int.toNat (6))) % 16),.b (decide (((nth v0 (Int.toNat (6))) % 16)<=3))] rfl ⟨az.g (PT (a:=(nth v0 (Int.toNat (6))) % 16) (b:=3) rfl rfl),az.g (si (a:=nth v0 (Int.toNat (6))) (b:=16) rfl rfl dY),ju.ix rfl rfl rfl dD,pB (n:=7) (rows:=([1,6,29,36,41,42,44]:O Int).map rI) underlying100 ji mc rL rfl rfl rfl (by kernel_rfl) rfl,pB (n:=7) (rows:=([0,1,23,29,36,41,42]:O Int).map rI) underlying100 ji mc rL rfl rfl rfl (by kernel_rfl) rfl⟩ (.tok (i:=7) (e:=3) (sz:=1) rfl ?_)
    refine let z0:fm:=.row 153 [.d (cI 0),.d (cI 0),.d (cI 0),.d (cS ([]:O uA)),.d (cS ([]:O uA)),.d (cI 0),.d (cI 0),.d (cI 0),.d (cI 0),.d (cB false),.d (cI 0),.d (cB false)];.bw (ι:=O Int×Bool) (λ⟨ct,sy⟩=>[(0,.d (ag 1 cq v0)),(2,.ref 0 0),(4,.ref 1 0),(7,.bX 1 (ct.map rI) 0),(8,.d (cB sy))]) (λ⟨ct,sy⟩=>⟨[z0,z0],[u5 ct.length]⟩) (λs=>gJ v0 s.1 s.2=some r) ?_ ?_
    ·rintro ⟨ct,sy⟩ H
     replace H:gJ v0 ct sy=some r:=H
     unfold gJ at H
     obtain ⟨fh,H⟩:=ab H
     obtain ⟨y2,gN,H⟩:=af H
     obtain ⟨gM,H⟩:=ab H
     obtain ⟨y3,mA,H⟩:=af H
     refine .A 36 [.d (ag 1 cq ((v0.take ((15:Int)).toNat).drop ((7:Int)).toNat)),.d (.dp [cS y2.1,cB y2.2]),.d (ag 1 cq ((v0.take ((23:Int)).toNat).drop ((15:Int)).toNat)),.d (.dp [cS y3.1,cB y3.2])] rfl ⟨rfl,rfl,rfl,rfl,ax (en 54 rfl) rfl rfl (vq mA),az.g (qR (l:=v0) (row:=cq) underlying84 nR nS rfl rfl rfl rfl gM),ax (en 54 rfl) rfl rfl (vq gN),az.g (qR (l:=v0) (row:=cq) underlying84 nR nS rfl rfl rfl rfl fh)⟩ (.ite H rfl (λH=>?_) (λH=>?_))
     ·refine .E 6 rfl (.R func93 results93 rfl ?_)
      cases H
      exact .m rfl (.cZ rfl)
     ·refine .E 2 rfl ?_
      obtain ⟨jX,H⟩:=ab H
      obtain ⟨mb,H⟩:=ab H
      obtain ⟨pM,H⟩:=ab H
      obtain ⟨gO,H⟩:=ab H
      obtain ⟨m4,H⟩:=ab H
      obtain ⟨nk,H⟩:=ab H
      obtain ⟨rV,H⟩:=ab H
      obtain ⟨vm,H⟩:=ab H
      obtain ⟨Ao,H⟩:=ab H
      obtain ⟨Ap,H⟩:=ab H
      obtain ⟨D3,H⟩:=ab H
      obtain ⟨D4,H⟩:=ab H
      obtain ⟨D5,H⟩:=ab H
      refine let z0:fm:=.row 153 [.d (cI 0),.d (cI 0),.d (cI 0),.d (cS ([]:O uA)),.d (cS ([]:O uA)),.d (cI 0),.d (cI 0),.d (cI 0),.d (cI 0),.d (cB false),.d (cI 0),.d (cB false)];.xo 40 39 [⟨[z0,z0],[u5 ct.length]⟩,⟨[z0,z0,z0],[u5 ct.length]⟩] wa (by kernel_rfl) (by decide) rfl ?_
      show nd _ _ _ _ _ _ _ _ _ _ (_::_) _ _
      refine .G (x:=.bX 1 (ct.map rI) 0) 0 1 ⟨az.g (cg rfl),az.g (cg rfl),trivial⟩ rfl rfl (.G (x:=.d (.ro (rI (nth ct (Int.toNat (0)))))) 0 1 ⟨az.g (dF (row:=rI) (l:=ct) (i:=0) underlying100 ji mc rfl rfl rfl jX),az.g (dF (row:=rI) (l:=ct) (i:=0) underlying100 ji mc rfl rfl rfl jX),trivial⟩ rfl rfl (.G (x:=.d (cI (nth ct (Int.toNat (0))))) 0 1 ⟨az.g (dN g9 rfl),az.g (dN g9 rfl),trivial⟩ rfl rfl (.G (x:=.bX 1 (ct.map rI) 0) 0 1 ⟨az.g (cg rfl),az.g (cg rfl),trivial⟩ rfl rfl (.G (x:=.d (.ro (rI (nth ct (Int.toNat (1)))))) 0 1 ⟨az.g (dF (row:=rI) (l:=ct) (i:=1) underlying100 ji mc rfl rfl rfl mb),az.g (dF (row:=rI) (l:=ct) (i:=1) underlying100 ji mc rfl rfl rfl mb),trivial⟩ rfl rfl (.G (x:=.d (cI (nth ct (Int.toNat (1))))) 0 1 ⟨az.g (dN g9 rfl),az.g (dN g9 rfl),trivial⟩ rfl rfl (.G (x:=.d (ag 1 cq v0)) 0 1 ⟨az.g (cg rfl),az.g (cg rfl),trivial⟩ rfl rfl (.G (x:=.d (.ro (cq (nth v0 (Int.toNat (6)))))) 0 1 ⟨az.g (dF (row:=cq) (l:=v0) (i:=6) underlying84 nR nS rfl rfl rfl pM),az.g (dF (row:=cq) (l:=v0) (i:=6) underlying84 nR nS rfl rfl rfl pM),trivial⟩ rfl rfl (.G (x:=.d (uW (nth v0 (Int.toNat (6))))) 0 1 ⟨az.g (dN AU rfl),az.g (dN AU rfl),trivial⟩ rfl rfl (.G (x:=.d (uW ((nth v0 (Int.toNat (6))) / 16))) 0 1 ⟨az.g (vV (a:=nth v0 (Int.toNat (6))) (b:=16) rfl rfl gO),az.g (vV (a:=nth v0 (Int.toNat (6))) (b:=16) rfl rfl gO),trivial⟩ rfl rfl (.G (x:=.d (cI (((nth v0 (Int.toNat (6))) / 16).toNat:Int))) 0 1 ⟨az.g (dw (a:=(nth v0 (Int.toNat (6))) / 16) underlying5 underlying3 rfl),az.g (dw (a:=(nth v0 (Int.toNat (6))) / 16) underlying5 underlying3 rfl),trivial⟩ rfl rfl (.G (x:=.d (cS y2.1)) 0 1 ⟨az.g (cg rfl),az.g (cg rfl),trivial⟩ rfl rfl (.G (x:=.d (cS y3.1)) 0 1 ⟨az.g (cg rfl),az.g (cg rfl),trivial⟩ rfl rfl (.G (x:=.bX 1 (ct.map rI) 0) 0 1 ⟨az.g (cg rfl),az.g (cg rfl),trivial⟩ rfl rfl (.G (x:=.d (.ro (rI (nth ct (Int.toNat (2)))))) 0 1 ⟨az.g (dF (row:=rI) (l:=ct) (i:=2) underlying100 ji mc rfl rfl rfl m4),az.g (dF (row:=rI) (l:=ct) (i:=2) underlying100 ji mc rfl rfl rfl m4),trivial⟩ rfl rfl (.G (x:=.d (cI (nth ct (Int.toNat (2))))) 0 1 ⟨az.g (dN g9 rfl),az.g (dN g9 rfl),trivial⟩ rfl rfl (.G (x:=.bX 1 (ct.map rI) 0) 0 1 ⟨az.g (cg rfl),az.g (cg rfl),trivial⟩ rfl rfl (.G (x:=.d (.ro (rI (nth ct (Int.toNat (3)))))) 0 1 ⟨az.g (dF (row:=rI) (l:=ct) (i:=3) underlying100 ji mc rfl rfl rfl nk),az.g (dF (row:=rI) (l:=ct) (i:=3) underlying100 ji mc rfl rfl rfl nk),trivial⟩ rfl rfl (.G (x:=.d (cI (nth ct (Int.toNat (3))))) 0 1 ⟨az.g (dN g9 rfl),az.g (dN g9 rfl),trivial⟩ rfl rfl (.G (x:=.bX 1 (ct.map rI) 0) 0 1 ⟨az.g (cg rfl),az.g (cg rfl),trivial⟩ rfl rfl (.G (x:=.d (.ro (rI (nth ct (Int.toNat (4)))))) 0 1 ⟨az.g (dF (row:=rI) (l:=ct) (i:=4) underlying100 ji mc rfl rfl rfl rV),az.g (dF (row:=rI) (l:=ct) (i:=4) underlying100 ji mc rfl rfl rfl rV),trivial⟩ rfl rfl (.G (x:=.d (cI (nth ct (Int.toNat (4))))) 0 1 ⟨az.g (dN g9 rfl),az.g (dN g9 rfl),trivial⟩ rfl rfl (.G (x:=.bX 1 (ct.map rI) 0) 0 1 ⟨az.g (cg rfl),az.g (cg rfl),trivial⟩ rfl rfl (.G (x:=.d (.ro (rI (nth ct (Int.toNat (5)))))) 0 1 ⟨az.g (dF (row:=rI) (l:=ct) (i:=5) underlying100 ji mc rfl rfl rfl vm),az.g (dF (row:=rI) (l:=ct) (i:=5) underlying100 ji mc rfl rfl rfl vm),trivial⟩ rfl rfl (.G (x:=.d (cI (nth ct (Int.toNat (5))))) 0 1 ⟨az.g (dN g9 rfl),az.g (dN g9 rfl),trivial⟩ rfl rfl (.G (x:=.bX 1 (ct.map rI) 0) 0 1 ⟨az.g (cg rfl),az.g (cg rfl),trivial⟩ rfl rfl (.G (x:=.d (.ro (rI (nth ct (Int.toNat (6)))))) 0 1 ⟨az.g (dF (row:=rI) (l:=ct) (i:=6) underlying100 ji mc rfl rfl rfl Ao),az.g (dF (row:=rI) (l:=ct) (i:=6) underlying100 ji mc rfl rfl rfl Ao),trivial⟩ rfl rfl (.G (x:=.d (cI (nth ct (Int.toNat (6))))) 0 1 ⟨az.g (dN g9 rfl),az.g (dN g9 rfl),trivial⟩ rfl rfl (.G (x:=.d (ag 1 cq v0)) 0 1 ⟨az.g (cg rfl),az.g (cg rfl),trivial⟩ rfl rfl (.G (x:=.d (.ro (cq (nth v0 (Int.toNat (6)))))) 0 1 ⟨az.g (dF (row:=cq) (l:=v0) (i:=6) underlying84 nR nS rfl rfl rfl Ap),az.g (dF (row:=cq) (l:=v0) (i:=6) underlying84 nR nS rfl rfl rfl Ap),trivial⟩ rfl rfl (.G (x:=.d (uW (nth v0 (Int.toNat (6))))) 0 1 ⟨az.g (dN AU rfl),az.g (dN AU rfl),trivial⟩ rfl rfl (.G (x:=.d (uW ((nth v0 (Int.toNat (6))) % 2))) 0 1 ⟨az.g (si (a:=nth v0 (Int.toNat (6))) (b:=2) rfl rfl D3),az.g (si (a:=nth v0 (Int.toNat (6))) (b:=2) rfl rfl D3),trivial⟩ rfl rfl (.G (x:=.d (cB (((nth v0 (Int.toNat (6))) % 2)==1))) 0 1 ⟨az.g (vU (a:=(nth v0 (Int.toNat (6))) % 2) (b:=1) rfl rfl),az.g (vU (a:=(nth v0 (Int.toNat (6))) % 2) (b:=1) rfl rfl),trivial⟩ rfl rfl (.G (x:=.d (ag 1 cq v0)) 0 1 ⟨az.g (cg rfl),az.g (cg rfl),trivial⟩ rfl rfl (.G (x:=.d (.ro (cq (nth v0 (Int.toNat (6)))))) 0 1 ⟨az.g (dF (row:=cq) (l:=v0) (i:=6) underlying84 nR nS rfl rfl rfl D4),az.g (dF (row:=cq) (l:=v0) (i:=6) underlying84 nR nS rfl rfl rfl D4),trivial⟩ rfl rfl (.G (x:=.d (uW (nth v0 (Int.toNat (6))))) 0 1 ⟨az.g (dN AU rfl),az.g (dN AU rfl),trivial⟩ rfl rfl (.G (x:=.d (uW ((nth v0 (Int.toNat (6))) % 16))) 0 1 ⟨az.g (si (a:=nth v0 (Int.toNat (6))) (b:=16) rfl rfl D5),az.g (si (a:=nth v0 (Int.toNat (6))) (b:=16) rfl rfl D5),trivial⟩ rfl rfl (.G (x:=.d (cB (decide (((nth v0 (Int.toNat (6))) % 16)>=2)))) 0 1 ⟨az.g (Kh (a:=(nth v0 (Int.toNat (6))) % 16) (b:=2) rfl rfl),az.g (Kh (a:=(nth v0 (Int.toNat (6))) % 16) (b:=2) rfl rfl),trivial⟩ rfl rfl (.G (x:=.d (.agg (aa.row (⟨nth ct (Int.toNat (0)),nth ct (Int.toNat (1)),(((nth v0 (Int.toNat (6))) / 16).toNat:Int),y2.1,y3.1,nth ct (Int.toNat (2)),nth ct (Int.toNat (3)),nth ct (Int.toNat (4)),nth ct (Int.toNat (5)),(((nth v0 (Int.toNat (6))) % 2)==1),nth ct (Int.toNat (6)),decide (((nth v0 (Int.toNat (6))) % 16)>=2)⟩:aa)))) 0 1 ⟨az.g (aK jo cH cW rfl (by kernel_rfl)),az.g (aK jo cH cW rfl (by kernel_rfl)),trivial⟩ rfl rfl (.v (x:=.ref 2 0) 0 (o8 F6 rfl) rfl rfl rfl rfl (.nil rfl ?_))))))))))))))))))))))))))))))))))))))))
      show cn _ _ _ _ _ _ (_::_) _ _ _
      obtain ⟨y4,vf,H⟩:=af H
      refine .A 14 [.i y4] rfl (ax (en 41 rfl) rfl rfl (jL vf)) (.ite H rfl (λH=>?_) (λH=>?_))
      ·refine .E 7 rfl (.R func93 results93 rfl ?_)
       cases H
       exact .m rfl (.cZ rfl)
      ·refine .E 7 rfl (.R func93 results93 rfl ?_)
       cases H
       exact .m rfl (.cZ rfl)
    ·intro ly eF
     refine let z0:fm:=.row 153 [.d (cI 0),.d (cI 0),.d (cI 0),.d (cS ([]:O uA)),.d (cS ([]:O uA)),.d (cI 0),.d (cI 0),.d (cI 0),.d (cI 0),.d (cB false),.d (cI 0),.d (cB false)];.lp H (λ⟨aW,bu,fw⟩=>[(0,.d (ag 1 cq v0)),(2,.ref 0 0),(4,.ref 1 0),(5,.d (ag 1 rI ([0,1,23,29,36,41,42]:O Int))),(6,.d (ag 1 rI ([1,6,29,36,41,42,44]:O Int))),(7,.bX 1 (aW.map rI) 0),(8,.d (cB bu)),(9,.d (cI fw))]) (λ⟨aW,bu,fw⟩=>⟨[z0,z0],[u5 aW.length]⟩) (.k8 rfl rfl rfl rfl rfl rfl rfl rfl (.nil)) rfl ?_
     rintro ⟨aW,bu,fw⟩ q1 H bt
     dsimp only at H
     unfold de at H
     refine .A 8 [.i (([0,1,23,29,36,41,42]:O Int).length:Int)] rfl (jq.n rfl rfl) (.ite H rfl (λH=>?_) (λH=>?_))
     ·obtain ⟨KX,H⟩:=ab H
      obtain ⟨KY,H⟩:=ab H
      obtain ⟨KZ,H⟩:=ab H
      obtain ⟨y5,Ad,H⟩:=af H
      obtain ⟨K0,H⟩:=ab H
      obtain ⟨QP,H⟩:=ab H
      refine .A 45 [.p 16,.d (.ro (rI (nth ([0,1,23,29,36,41,42]:O Int) fw.toNat))),.d (.ro (rI (nth ([1,6,29,36,41,42,44]:O Int) fw.toNat))),.d (ag 1 cq ((v0.take (Int.toNat (nth ([1,6,29,36,41,42,44]:O Int) fw.toNat))).drop (Int.toNat (nth ([0,1,23,29,36,41,42]:O Int) fw.toNat)))),.d (.dp [cI y5.1,cI y5.2]),.d (ag 1 rI ([y5.1]:O Int)),.a 0 3 1 rI (aW++([y5.1]:O Int)),.i (fw+1)] rfl ⟨ay rfl rfl QP,rfl,rfl,jq.a rfl rfl rfl rfl K0,aC underlying100 ji mc rL rfl rfl rfl rfl rfl,ax (en 55 rfl) rfl rfl (xb Ad),az.g (qR (l:=v0) (row:=cq) underlying84 nR nS rfl rfl rfl rfl KZ),jq.ix rfl rfl rfl KY,jq.ix rfl rfl rfl KX,(show _=true by kernel_rfl)⟩ ?_
      cases H
      exact .z bt rfl rfl
     ·refine .E 1 rfl ?_
      obtain ⟨q0,H9,lz⟩:=bK H;clear H;cases lz
      cases bt
      have H:=H9
      exact .z (eF (aW,bu) H) rfl rfl
theorem Ea {aU:O uA} {r:(O aa)×(O aj)×Int} (H:qf aU=some r):aB prog 82 [ag 1 cq aU] (·=.dp [ag 12 aa.row r.1,ag 4 aj.row r.2.1,cI r.2.2]):=by
 obtain ⟨i5,nR,xr,nS,DY⟩:=u4
 obtain ⟨i153,cH,cW,eB,m5⟩:=jn
 obtain ⟨i178,nt,pq,rN,A7⟩:=ue
 refine aB.aS func82 rfl ntmps82 rfl λS hS=>?_
 unfold qf at H
 obtain ⟨cA,H⟩:=ab H
 refine .A 14 [.i (aU.length:Int),.i (Int.tmod (aU.length:Int) 45)] rfl ⟨az.g (vW rfl rfl cA),ju.n rfl rfl⟩ (.ite H rfl (λH=>?_) (λH=>?_))
 ·refine .E 6 rfl (.R func82 results82 rfl ?_)
  cases H
  exact .m rfl (.eP ⟨.nil 12,.nil 4,.av _,trivial⟩)
 ·obtain ⟨cP,H⟩:=ab H
  refine .A 9 [.i (aU.length:Int),.i (Int.tdiv (aU.length:Int) 45)] rfl ⟨az.g (tV rfl rfl cP),ju.n rfl rfl⟩ (.ite H rfl (λH=>?_) (λH=>?_))
  ·refine .E 6 rfl (.R func82 results82 rfl ?_)
   cases H
   exact .m rfl (.eP ⟨.nil 12,.nil 4,.av _,trivial⟩)
  ·refine .E 14 rfl (.tok (i:=5) (e:=153) (sz:=12) rfl (.tok (i:=6) (e:=178) (sz:=4) rfl (.bw (ι:=O aa×O aj) (λ⟨fc,uq⟩=>[(5,.bX 12 (fc.map aa.row) 0),(6,.bX 4 (uq.map aj.row) 1)]) (λ⟨fc,uq⟩=>⟨[],[dh fc.length,jb uq.length]⟩) (λs=>nG s.1 s.2=some r) ?_ ?_)))
   ·rintro ⟨fc,uq⟩ H
    replace H:nG fc uq=some r:=H
    unfold nG at H
    refine .E 8 rfl (.R func82 results82 rfl ?_)
    cases H
    exact .m rfl (.eP ⟨.bX _ _ _,.bX _ _ _,.av _,trivial⟩)
   ·intro ly eF
    refine .lp H (λ⟨bZ,oH,bn⟩=>[(0,.d (ag 1 cq aU)),(5,.bX 12 (bZ.map aa.row) 0),(6,.bX 4 (oH.map aj.row) 1),(7,.d (cI bn))]) (λ⟨bZ,oH,bn⟩=>⟨[],[dh bZ.length,jb oH.length]⟩) (.k4 rfl rfl rfl rfl (.nil)) rfl ?_
    rintro ⟨bZ,oH,bn⟩ q1 H bt
    dsimp only at H
    unfold nH at H
    obtain ⟨dD,H⟩:=ab H
    refine .A 9 [.i (aU.length:Int),.i (Int.tdiv (aU.length:Int) 45)] rfl ⟨az.g (tV rfl rfl dD),ju.n rfl rfl⟩ (.ite H rfl (λH=>?_) (λH=>?_))
    ·obtain ⟨dY,H⟩:=ab H
     obtain ⟨fh,H⟩:=ab H
     obtain ⟨gM,H⟩:=ab H
     obtain ⟨jX,H⟩:=ab H
     obtain ⟨y1,dI,H⟩:=af H
     refine .A 25 [.i (bn*45),.i (bn+1),.i ((bn+1)*45),.d (ag 1 cq ((aU.take ((bn+1)*45).toNat).drop (bn*45).toNat)),.d (.dp [.agg (aa.row y1.1),cI y1.2]),.r 0] rfl ⟨ax (en 56 rfl) rfl rfl (yS dI),az.g (qR (l:=aU) (row:=cq) underlying84 nR nS rfl rfl rfl rfl jX),ot rfl rfl gM,ay rfl rfl fh,ot rfl rfl dY⟩ (.ite H rfl (λH=>?_) (λH=>?_))
     ·obtain ⟨mb,H⟩:=ab H
      obtain ⟨pM,H⟩:=ab H
      refine .A 13 [.d (ag 12 aa.row ([y1.1]:O aa)),.a 0 153 12 aa.row (bZ++([y1.1]:O aa)),.i (bn+1)] rfl ⟨ay rfl rfl pM,lC.a rfl rfl rfl rfl mb,aC underlying27 cH eB cW rfl rfl rfl rfl rfl⟩ ?_
      cases H
      exact .t 0 2 bt rfl rfl rfl rfl rfl hS rfl
     ·obtain ⟨gO,H⟩:=ab H
      obtain ⟨m4,H⟩:=ab H
      refine .A 15 [.d (.agg (aj.row (⟨0,0,bn,y1.2⟩:aj))),.d (ag 4 aj.row ([(⟨0,0,bn,y1.2⟩:aj)]:O aj)),.a 1 178 4 aj.row (oH++([(⟨0,0,bn,y1.2⟩:aj)]:O aj)),.i (bn+1)] rfl ⟨ay rfl rfl m4,O0.a rfl rfl rfl rfl gO,aC underlying32 nt rN pq rfl rfl rfl rfl rfl,az.g (aK B2 nt pq rfl rfl)⟩ ?_
      cases H
      exact .t 0 2 bt rfl rfl rfl rfl rfl hS rfl
    ·refine .E 1 rfl ?_
     obtain ⟨q0,H9,lz⟩:=bK H;clear H;cases lz
     cases bt
     have H:=H9
     exact .z (eF (bZ,oH) H) rfl rfl
theorem Eb {sA:Int} {pj:O uA} {r:(O aa)×(O aj)×Int} (H:qg sA pj=some r):aB prog 61 [cI sA,ag 1 cq pj] (·=.dp [ag 12 aa.row r.1,ag 4 aj.row r.2.1,cI r.2.2]):=by
 refine aB.aS func61 rfl ntmps61 rfl λS hS=>?_
 unfold qg at H
 refine .E 17 rfl (.ite H rfl (λH=>?_) (λH=>?_))
 ·obtain ⟨y1,dI,H⟩:=af H
  refine .A 12 [.s pj,.d (.dp [ag 12 aa.row y1.1,ag 4 aj.row y1.2.1,cI y1.2.2])] rfl ⟨ax (en 57 rfl) rfl rfl (D6 dI),az.g (iu (a:=pj) underlying84 underlying5 underlying9 rfl rfl)⟩ (.R func61 results61 rfl ?_)
  cases H
  exact .m rfl (.cZ rfl)
 ·refine .E 5 rfl (.ite H rfl (λH=>?_) (λH=>?_))
  ·obtain ⟨y2,gN,H⟩:=af H
   refine .A 11 [.d (.dp [ag 12 aa.row y2.1,ag 4 aj.row y2.2.1,cI y2.2.2])] rfl (ax (en 58 rfl) rfl rfl (D8 gN)) (.R func61 results61 rfl ?_)
   cases H
   exact .m rfl (.cZ rfl)
  ·obtain ⟨y3,mA,H⟩:=af H
   refine .A 13 [.d (.dp [ag 12 aa.row y3.1,ag 4 aj.row y3.2.1,cI y3.2.2])] rfl (ax (en 59 rfl) rfl rfl (Ea mA)) (.R func61 results61 rfl ?_)
   cases H
   exact .m rfl (.cZ rfl)
theorem xc {aU:O uA} {r:cu×Int} (H:jG aU=some r):aB prog 62 [ag 1 cq aU] (·=.dp [.agg (cu.row r.1),cI r.2]):=by
 obtain ⟨i3,ji,rL,mc,Fp⟩:=u3
 obtain ⟨i146,Ti,Tj,Wz,WA⟩:=Ql
 obtain ⟨i148,A8,A9,Tk,Tl⟩:=KL
 refine aB.aS func62 rfl ntmps62 rfl λS hS=>?_
 unfold jG at H
 obtain ⟨y1,dI,H⟩:=af H
 refine .A 23 [.r 0,.d (.dp [ag 1 cq y1.1,ag 1 cq y1.2.1,cI y1.2.2])] rfl (ax (en 35 rfl) rfl rfl (oR dI)) (.ite H rfl (λH=>?_) (λH=>?_))
 ·refine .A 7 [.d (.agg (cu.row kq1))] rfl (az.g (aK yu A8 A9 rfl rfl)) (.R func62 results62 rfl ?_)
  cases H
  exact .m rfl (.cZ rfl)
 ·refine .A 8 [.i (y1.2.1.length:Int)] rfl (ju.n rfl rfl) (.ite H rfl (λH=>?_) (λH=>?_))
  ·refine .A 6 [.d (.agg (cu.row kq1))] rfl (az.g (aK yu A8 A9 rfl rfl)) (.R func62 results62 rfl ?_)
   cases H
   exact .m rfl (.cZ rfl)
  ·obtain ⟨y2,gN,H⟩:=af H
   refine .A 17 [.d (.dp [ag 1 rI y2.1,cI y2.2])] rfl (ax (en 36 rfl) rfl rfl (vn gN)) (.ite H rfl (λH=>?_) (λH=>?_))
   ·refine .A 7 [.d (.agg (cu.row kq1))] rfl (az.g (aK yu A8 A9 rfl rfl)) (.R func62 results62 rfl ?_)
    cases H
    exact .m rfl (.cZ rfl)
   ·obtain ⟨cA,H⟩:=ab H
    obtain ⟨cP,H⟩:=ab H
    obtain ⟨dD,H⟩:=ab H
    obtain ⟨dY,H⟩:=ab H
    obtain ⟨fh,H⟩:=ab H
    refine .A 24 [.p 17,.d (.ro (rI (nth y2.1 (Int.toNat (0))))),.d (.ro (rI (nth y2.1 (Int.toNat (1))))),.d (.ro (rI (nth y2.1 (Int.toNat (2))))),.d (.ro (rI (nth y2.1 (Int.toNat (3))))),.d (.ro (rI (nth y2.1 (Int.toNat (4))))),.d (.agg [cI 0,cI (nth y2.1 (Int.toNat (1))),cI (nth y2.1 (Int.toNat (2))),cI (nth y2.1 (Int.toNat (3))),cI (nth y2.1 (Int.toNat (4)))]),.d (.agg (cu.row (⟨nth y2.1 (Int.toNat (0)),([0,nth y2.1 (Int.toNat (1)),nth y2.1 (Int.toNat (2)),nth y2.1 (Int.toNat (3)),nth y2.1 (Int.toNat (4))]:O Int)⟩:cu)))] rfl ⟨az.g (aK yu A8 A9 rfl rfl),az.g (gl underlying146 Ti Tj ji mc rfl rfl),jq.ix rfl rfl rfl fh,jq.ix rfl rfl rfl dY,jq.ix rfl rfl rfl dD,jq.ix rfl rfl rfl cP,jq.ix rfl rfl rfl cA,(show _=true by kernel_rfl)⟩ (.R func62 results62 rfl ?_)
    cases H
    exact .m rfl (.cZ rfl)
theorem yT {aE:O aa} {r:cu} (H:kX aE=some r):aB prog 63 [ag 12 aa.row aE] (·=.agg (cu.row r)):=by
 obtain ⟨i3,ji,rL,mc,Fp⟩:=u3
 obtain ⟨i148,A8,A9,Tk,Tl⟩:=KL
 refine aB.aS func63 rfl ntmps63 rfl λS hS=>?_
 unfold kX at H
 refine .A 18 [.r 0,.i (aE.length:Int),.d (.agg (cu.row (⟨(aE.length:Int),([0,0,0,0,0]:O Int)⟩:cu))),.r 1] rfl ⟨az.g (aK yu A8 A9 rfl rfl),lC.n rfl rfl⟩ (.lp H (λ⟨aq,bz,bA,bP,bQ,bR⟩=>[(0,.d (ag 12 aa.row aE)),(2,.ref 0 0),(3,.ref 1 0),(4,.d (cI aq))]) (λ⟨aq,bz,bA,bP,bQ,bR⟩=>⟨[.row 148 [.d (cI 0),.d (cI 0),.d (cI 0),.d (cI 0),.d (cI 0),.d (cI 0)],.row 148 [.d (cI (aE.length:Int)),.d (cI bz),.d (cI bA),.d (cI bP),.d (cI bQ),.d (cI bR)]],[]⟩) (.k4 rfl rfl rfl rfl (.nil)) rfl ?_)
 rintro ⟨aq,bz,bA,bP,bQ,bR⟩ q1 H bt
 dsimp only at H
 unfold jT at H
 refine .A 8 [.i (aE.length:Int)] rfl (lC.n rfl rfl) (.ite H rfl (λH=>?_) (λH=>?_))
 ·obtain ⟨cA,H⟩:=ab H
  refine .A 33 [.d (.ro (aa.row (nth aE aq.toNat))),.r 2] rfl ⟨rfl,rfl,rfl,rfl,rfl,rfl,rfl,rfl,rfl,lC.ix rfl rfl rfl cA⟩ (.ite H rfl (λH=>?_) (λH=>?_))
  ·obtain ⟨cP,H⟩:=ab H
   obtain ⟨dD,H⟩:=ab H
   obtain ⟨dY,H⟩:=ab H
   obtain ⟨fh,H⟩:=ab H
   obtain ⟨gM,H⟩:=ab H
   obtain ⟨jX,H⟩:=ab H
   refine .A 22 [.p 12,.g (.ref 1 (1+((nth aE aq.toNat).kind).toNat)),.f 15 (.d (cI (nth ([bz,bA,bP,bQ,bR]:O Int) ((nth aE aq.toNat).kind).toNat))),.i ((nth ([bz,bA,bP,bQ,bR]:O Int) ((nth aE aq.toNat).kind).toNat)+((nth aE aq.toNat).aJ)),.g (.ref 1 (1+((nth aE aq.toNat).kind).toNat)),.w 8 ⟨[.row 148 [.d (cI 0),.d (cI 0),.d (cI 0),.d (cI 0),.d (cI 0),.d (cI 0)],.row 148 [.d (cI (aE.length:Int)),.d (cI (nth (pV ([bz,bA,bP,bQ,bR]:O Int) 5 ((nth aE aq.toNat).kind).toNat ((nth ([bz,bA,bP,bQ,bR]:O Int) ((nth aE aq.toNat).kind).toNat)+((nth aE aq.toNat).aJ))) 0)),.d (cI (nth (pV ([bz,bA,bP,bQ,bR]:O Int) 5 ((nth aE aq.toNat).kind).toNat ((nth ([bz,bA,bP,bQ,bR]:O Int) ((nth aE aq.toNat).kind).toNat)+((nth aE aq.toNat).aJ))) 1)),.d (cI (nth (pV ([bz,bA,bP,bQ,bR]:O Int) 5 ((nth aE aq.toNat).kind).toNat ((nth ([bz,bA,bP,bQ,bR]:O Int) ((nth aE aq.toNat).kind).toNat)+((nth aE aq.toNat).aJ))) 2)),.d (cI (nth (pV ([bz,bA,bP,bQ,bR]:O Int) 5 ((nth aE aq.toNat).kind).toNat ((nth ([bz,bA,bP,bQ,bR]:O Int) ((nth aE aq.toNat).kind).toNat)+((nth aE aq.toNat).aJ))) 3)),.d (cI (nth (pV ([bz,bA,bP,bQ,bR]:O Int) 5 ((nth aE aq.toNat).kind).toNat ((nth ([bz,bA,bP,bQ,bR]:O Int) ((nth aE aq.toNat).kind).toNat)+((nth aE aq.toNat).aJ))) 4))],.row 153 [.d (cI (nth aE aq.toNat).source),.d (cI (nth aE aq.toNat).aF),.d (cI (nth aE aq.toNat).kind),.d (cS (nth aE aq.toNat).a),.d (cS (nth aE aq.toNat).b),.d (cI (nth aE aq.toNat).start),.d (cI (nth aE aq.toNat).aJ),.d (cI (nth aE aq.toNat).call),.d (cI (nth aE aq.toNat).part),.d (cB (nth aE aq.toNat).last),.d (cI (nth aE aq.toNat).bh),.d (cB (nth aE aq.toNat).aP)]],[]⟩,.i (aq+1)] rfl ⟨ay rfl rfl jX,.e (Kz (n:=5) (off:=1) (i:=((nth aE aq.toNat).kind).toNat) (l:=([bz,bA,bP,bQ,bR]:O Int)) (c1:=cI) (a:=(nth ([bz,bA,bP,bQ,bR]:O Int) ((nth aE aq.toNat).kind).toNat)+((nth aE aq.toNat).aJ)) rfl rfl rfl rfl rfl gM Vm) rfl,az.g (Ky (off:=1) (i:=(nth aE aq.toNat).kind) underlying146 ⟨_,ji,mc⟩ rfl rfl fh),ay rfl rfl dY,az.g (M4 (n:=5) (off:=1) (i:=((nth aE aq.toNat).kind).toNat) (l:=([bz,bA,bP,bQ,bR]:O Int)) (c1:=cI) g9 rfl rfl rfl dD),az.g (Ky (off:=1) (i:=(nth aE aq.toNat).kind) underlying146 ⟨_,ji,mc⟩ rfl rfl cP),(show _=true by kernel_rfl)⟩ ?_
   cases H
   exact .t 2 0 bt rfl rfl rfl rfl rfl hS rfl
  ·obtain ⟨mb,H⟩:=ab H
   refine .A 7 [.i (aq+1)] rfl (ay rfl rfl mb) ?_
   cases H
   exact .t 2 0 bt rfl rfl rfl rfl rfl hS rfl
 ·refine .E 6 rfl (.R func63 results63 rfl ?_)
  cases H
  cases bt
  exact .m rfl (.av _)
theorem Ch {v0:O uA} {r:Batch×(O aj)×Int} (H:oI v0=some r):aB prog 47 [ag 1 cq v0] (·=.dp [.agg (Batch.row r.1),ag 4 aj.row r.2.1,cI r.2.2]):=by
 obtain ⟨i121,yU,yV,WC,WD⟩:=Qj
 refine aB.aS func47 rfl ntmps47 rfl λS hS=>?_
 unfold oI at H
 obtain ⟨y1,dI,H⟩:=af H
 refine .A 25 [.r 0,.d (.dp [.agg (Head.row y1.1),ag 1 cq y1.2.1,cI y1.2.2]),.r 1] rfl (ax (en 60 rfl) rfl rfl (Ai dI)) (.ite H rfl (λH=>?_) (λH=>?_))
 ·refine .A 8 [.d (.agg (Batch.row kq0))] rfl (az.g (az.le (aK uf yU yV rfl rfl) (dB.d (.agg ⟨.av _,.av _,.av _,.nil 12,trivial⟩)))) (.R func47 results47 rfl ?_)
  cases H
  exact .m rfl (.eP ⟨.av _,.nil 4,.av _,trivial⟩)
 ·obtain ⟨y2,gN,H⟩:=af H
  refine .A 19 [.d (.dp [ag 1 cq y2.1,ag 1 cq y2.2.1,cI y2.2.2])] rfl (ax (en 35 rfl) rfl rfl (oR gN)) (.ite H rfl (λH=>?_) (λH=>?_))
  ·refine .A 8 [.d (.agg (Batch.row kq0))] rfl (az.g (az.le (aK uf yU yV rfl rfl) (dB.d (.agg ⟨.av _,.av _,.av _,.nil 12,trivial⟩)))) (.R func47 results47 rfl ?_)
   cases H
   exact .m rfl (.eP ⟨.av _,.nil 4,.av _,trivial⟩)
  ·obtain ⟨y3,mA,H⟩:=af H
   refine .A 21 [.d (.dp [ag 12 aa.row y3.1,ag 4 aj.row y3.2.1,cI y3.2.2])] rfl (ax (en 61 rfl) rfl rfl (Eb mA)) (.ite H rfl (λH=>?_) (λH=>?_))
   ·refine .A 8 [.d (.agg (Batch.row kq0))] rfl (az.g (az.le (aK uf yU yV rfl rfl) (dB.d (.agg ⟨.av _,.av _,.av _,.nil 12,trivial⟩)))) (.R func47 results47 rfl ?_)
    cases H
    exact .m rfl (.eP ⟨.av _,.nil 4,.av _,trivial⟩)
   ·obtain ⟨y4,vf,H⟩:=af H
    refine .A 18 [.d (.dp [.agg (cu.row y4.1),cI y4.2]),.r 2] rfl (ax (en 62 rfl) rfl rfl (xc vf)) (.ite H rfl (λH=>?_) (λH=>?_))
    ·refine .A 8 [.d (.agg (Batch.row kq0))] rfl (az.g (az.le (aK uf yU yV rfl rfl) (dB.d (.agg ⟨.av _,.av _,.av _,.nil 12,trivial⟩)))) (.R func47 results47 rfl ?_)
     cases H
     exact .m rfl (.eP ⟨.av _,.nil 4,.av _,trivial⟩)
    ·obtain ⟨y5,Ad,H⟩:=af H
     refine .A 17 [.p 11,.d (.agg (cu.row y5)),.b (!(jy (cu.j6 y4.1) (cu.j6 y5))),.i (y3.1.length:Int)] rfl ⟨rfl,rfl,rfl,λhg=>lC.n rfl rfl,rfl,rfl,az.g (M6 QB rfl rfl (xs:=cu.j6 y4.1) (ys:=cu.j6 y5) rfl rfl rfl rfl),ax (en 63 rfl) rfl rfl (yT Ad),(show _=true by kernel_rfl)⟩ (.ite H rfl (λH=>?_) (λH=>?_))
     ·refine .A 7 [.d (.agg (Batch.row kq0))] rfl (az.g (az.le (aK uf yU yV rfl rfl) (dB.d (.agg ⟨.av _,.av _,.av _,.nil 12,trivial⟩)))) (.R func47 results47 rfl ?_)
      cases H
      exact .m rfl (.eP ⟨.av _,.nil 4,.av _,trivial⟩)
     ·refine .E 6 rfl (.bw (ι:=Unit) (λ_=>[(2,.ref 0 0),(5,.ref 1 0),(10,.d (ag 12 aa.row y3.1)),(11,.d (ag 4 aj.row y3.2.1))]) (λ_=>⟨[.row 121 [.d (cI 0),.d (cI 0),.d (cI 0),.d bT],.row 90 [.d (cI y1.1.source),.d (cI y1.1.number),.d (cI y1.1.format),.d (cI y1.1.count)],.row 148 [.d (cI y4.1.count),.d (cI (nth y4.1.aJ 0)),.d (cI (nth y4.1.aJ 1)),.d (cI (nth y4.1.aJ 2)),.d (cI (nth y4.1.aJ 3)),.d (cI (nth y4.1.aJ 4))]],[]⟩) (λs=>mu y1 y3=some r) ?_ ?_)
      ·rintro _ H
       replace H:mu y1 y3=some r:=H
       unfold mu at H
       refine .A 15 [.d (.agg (Batch.row (⟨y1.1.source,y1.1.number,y1.1.format,y3.1⟩:Batch)))] rfl (az.g (aK uf yU yV rfl rfl)) (.R func47 results47 rfl ?_)
       cases H
       exact .m rfl (.cZ rfl)
      ·intro ly eF
       refine .lp H (λeW=>[(2,.ref 0 0),(5,.ref 1 0),(10,.d (ag 12 aa.row y3.1)),(11,.d (ag 4 aj.row y3.2.1)),(13,.d (cI eW))]) (λeW=>⟨[.row 121 [.d (cI 0),.d (cI 0),.d (cI 0),.d bT],.row 90 [.d (cI y1.1.source),.d (cI y1.1.number),.d (cI y1.1.format),.d (cI y1.1.count)],.row 148 [.d (cI y4.1.count),.d (cI (nth y4.1.aJ 0)),.d (cI (nth y4.1.aJ 1)),.d (cI (nth y4.1.aJ 2)),.d (cI (nth y4.1.aJ 3)),.d (cI (nth y4.1.aJ 4))]],[]⟩) (.k5 rfl rfl rfl rfl rfl (.nil)) rfl ?_
       rintro eW q1 H bt
       unfold jH at H
       refine .A 8 [.i (y3.1.length:Int)] rfl (lC.n rfl rfl) (.ite H rfl (λH=>?_) (λH=>?_))
       ·obtain ⟨cA,H⟩:=ab H
        refine .A 15 [.p 8,.d (.ro (aa.row (nth y3.1 eW.toNat)))] rfl ⟨lC.ix rfl rfl rfl cA,(show _=true by kernel_rfl)⟩ (.ite H rfl (λH=>?_) (λH=>?_))
        ·refine .A 7 [.d (.agg (Batch.row kq0))] rfl (az.g (az.le (aK uf yU yV rfl rfl) (dB.d (.agg ⟨.av _,.av _,.av _,.nil 12,trivial⟩)))) (.R func47 results47 rfl ?_)
         cases H
         cases bt
         exact .m rfl (.eP ⟨.av _,.nil 4,.av _,trivial⟩)
        ·obtain ⟨cP,H⟩:=ab H
         refine .A 7 [.i (eW+1)] rfl (ay rfl rfl cP) ?_
         cases H
         exact .z bt rfl rfl
       ·refine .E 1 rfl ?_
        obtain ⟨q0,H9,lz⟩:=bK H;clear H;cases lz
        cases bt
        have H:=H9
        exact .z (eF () H) rfl rfl
theorem Aq {aU:Batch} {r:Int} (H:mV aU=some r):aB prog 83 [.agg (Batch.row aU)] (·=cI r):=by
 refine aB.aS func83 rfl ntmps83 rfl λS hS=>?_
 unfold mV at H
 obtain ⟨y1,dI,H⟩:=af H
 refine .A 22 [.r 0,.i y1] rfl (ax (en 37 rfl) rfl rfl (vo dI)) (.ite H rfl (λH=>?_) (λH=>?_))
 ·refine .E 5 rfl (.R func83 results83 rfl ?_)
  cases H
  exact .m rfl (.av _)
 ·refine .A 9 [.i (aU.records.length:Int)] rfl (lC.n rfl rfl) (.ite H rfl (λH=>?_) (λH=>?_))
  ·refine .E 4 rfl (.R func83 results83 rfl ?_)
   cases H
   exact .m rfl (.av _)
  ·refine .E 7 rfl (.lp H (λaq=>[(1,.ref 0 0),(4,.d (cI aq))]) (λaq=>⟨[.row 121 [.d (cI aU.source),.d (cI aU.number),.d (cI aU.format),.d (ag 12 aa.row aU.records)]],[]⟩) (.k2 rfl rfl (.nil)) rfl ?_)
   rintro aq q1 H bt
   unfold eX at H
   refine .A 9 [.i (aU.records.length:Int)] rfl (lC.n rfl rfl) (.ite H rfl (λH=>?_) (λH=>?_))
   ·obtain ⟨cA,H⟩:=ab H
    obtain ⟨y2,gN,H⟩:=af H
    refine .A 19 [.d (.ro (aa.row (nth aU.records aq.toNat))),.i y2] rfl ⟨ax (en 41 rfl) rfl rfl (jL gN),lC.ix rfl rfl rfl cA⟩ (.ite H rfl (λH=>?_) (λH=>?_))
    ·refine .E 5 rfl (.R func83 results83 rfl ?_)
     cases H
     cases bt
     exact .m rfl (.av _)
    ·obtain ⟨cP,H⟩:=ab H
     refine .A 14 [.p 9,.d (.ro (aa.row (nth aU.records aq.toNat)))] rfl ⟨lC.ix rfl rfl rfl cP,(show _=true by kernel_rfl)⟩ (.ite H rfl (λH=>?_) (λH=>?_))
     ·refine .E 4 rfl (.R func83 results83 rfl ?_)
      cases H
      cases bt
      exact .m rfl (.av _)
     ·obtain ⟨dD,H⟩:=ab H
      refine .A 7 [.i (aq+1)] rfl (ay rfl rfl dD) ?_
      cases H
      exact .z bt rfl rfl
   ·refine .E 5 rfl (.R func83 results83 rfl ?_)
    cases H
    cases bt
    exact .m rfl (.av _)
theorem Ci {hU:O Head} {jj oJ r:Int} (H:oK hU jj oJ=some r):aB prog 95 [ag 4 Head.row hU,cI jj,cI oJ] (·=cI r):=by
 refine aB.aS func95 rfl ntmps95 rfl λS hS=>?_
 unfold oK at H
 refine .E 14 rfl (.lp H (λ⟨A3,bO⟩=>[(0,.d (ag 4 Head.row hU)),(1,.d (cI jj)),(2,.d (cI oJ)),(7,.d (cI A3)),(8,.d (cI bO))]) (λ⟨A3,bO⟩=>⟨[],[]⟩) (.k5 rfl rfl rfl rfl rfl (.nil)) rfl ?_)
 rintro ⟨A3,bO⟩ q1 H bt
 dsimp only at H
 unfold mv at H
 refine .E 7 rfl (.ite H rfl (λH=>?_) (λH=>?_))
 ·obtain ⟨cA,H⟩:=ab H
  refine .A 13 [.d (.ro (Head.row (nth hU bO.toNat)))] rfl (Nc.ix rfl rfl rfl cA) (.ite H rfl (λH=>?_) (λH=>?_))
  ·obtain ⟨cP,H⟩:=ab H
   obtain ⟨dD,H⟩:=ab H
   obtain ⟨dY,H⟩:=ab H
   refine .A 15 [.d (.ro (Head.row (nth hU bO.toNat))),.i (((nth hU bO.toNat).number)+1),.i (bO+1)] rfl ⟨ay rfl rfl dY,ay rfl rfl dD,Nc.ix rfl rfl rfl cP⟩ ?_
   cases H
   exact .z bt rfl rfl
  ·obtain ⟨fh,H⟩:=ab H
   refine .A 7 [.i (bO+1)] rfl (ay rfl rfl fh) ?_
   cases H
   exact .z bt rfl rfl
 ·refine .E 6 rfl (.R func95 results95 rfl ?_)
  cases H
  cases bt
  exact .m rfl (.av _)
theorem Cj {IN:bE} {dV r:Int} (H:oL IN dV=some r):aB prog 84 [.agg (bE.row IN),cI dV] (·=cI r):=by
 refine aB.aS func84 rfl ntmps84 rfl λS hS=>?_
 unfold oL at H
 refine .A 15 [.r 0] rfl ⟨rfl,rfl⟩ (.ite H rfl (λH=>?_) (λH=>?_))
 ·refine .E 4 rfl (.R func84 results84 rfl ?_)
  cases H
  exact .m rfl (.av _)
 ·obtain ⟨y1,dI,H⟩:=af H
  refine .A 12 [.i (IN.aX.length:Int),.i y1] rfl ⟨ax (en 64 rfl) rfl rfl (Ci dI),Nc.n rfl rfl⟩ (.R func84 results84 rfl ?_)
  cases H
  exact .m rfl (.av _)
theorem yW {MA:aa} {DU:bJ} {r:Int} (H:jh MA DU=some r):aB prog 85 [.agg (aa.row MA),.agg (bJ.row DU)] (·=cI r):=by
 refine aB.aS func85 rfl ntmps85 rfl λS hS=>?_
 unfold jh at H
 refine .A 22 [.r 0,.r 1] rfl ⟨rfl,rfl,rfl,rfl,rfl⟩ (.ite H rfl (λH=>?_) (λH=>?_))
 ·refine .E 4 rfl (.R func85 results85 rfl ?_)
  cases H
  exact .m rfl (.av _)
 ·refine .E 5 rfl (.R func85 results85 rfl ?_)
  cases H
  exact .m rfl (.av _)
theorem qq {iD sB:Int} {r:Bool} (H:fU iD sB=some r):aB prog 96 [cI iD,cI sB] (·=cB r):=by
 refine aB.aS func96 rfl ntmps96 rfl λS hS=>?_
 unfold fU at H
 refine .A 22 [] rfl ⟨rfl,rfl,rfl,rfl,rfl,rfl⟩ (.R func96 results96 rfl ?_)
 cases H
 exact .m rfl (.av _)
theorem Ec {bd:O Range} {dV jI:Int} {r:Bool} (H:qh bd dV jI=some r):aB prog 97 [ag 3 Range.row bd,cI dV,cI jI] (·=cB r):=by
 refine aB.aS func97 rfl ntmps97 rfl λS hS=>?_
 unfold qh at H
 refine .E 10 rfl (.lp H (λbn=>[(0,.d (ag 3 Range.row bd)),(1,.d (cI dV)),(2,.d (cI jI)),(7,.d (cI bn))]) (λbn=>⟨[],[]⟩) (.k4 rfl rfl rfl rfl (.nil)) rfl ?_)
 rintro bn q1 H bt
 unfold nI at H
 refine .A 8 [.i (bd.length:Int)] rfl (Hn.n rfl rfl) (.ite H rfl (λH=>?_) (λH=>?_))
 ·obtain ⟨cA,H⟩:=ab H
  obtain ⟨cP,H⟩:=ab H
  obtain ⟨dD,H⟩:=ab H
  refine .A 31 [.d (.ro (Range.row (nth bd bn.toNat))),.d (.ro (Range.row (nth bd bn.toNat))),.d (.ro (Range.row (nth bd bn.toNat)))] rfl ⟨rfl,rfl,rfl,rfl,rfl,λhg=>Hn.ix rfl rfl rfl (dD hg),rfl,rfl,rfl,rfl,rfl,rfl,rfl,λhg=>Hn.ix rfl rfl rfl (cP hg),rfl,rfl,Hn.ix rfl rfl rfl cA⟩ (.ite H rfl (λH=>?_) (λH=>?_))
  ·obtain ⟨y1,dI,H⟩:=af H
   refine .A 7 [.b y1] rfl (ax (en 65 rfl) rfl rfl (qq dI)) (.R func97 results97 rfl ?_)
   cases H
   cases bt
   exact .m rfl (.av _)
  ·obtain ⟨dY,H⟩:=ab H
   refine .A 7 [.i (bn+1)] rfl (ay rfl rfl dY) ?_
   cases H
   exact .z bt rfl rfl
 ·refine .E 5 rfl (.R func97 results97 rfl ?_)
  cases H
  cases bt
  exact .m rfl (.av _)
theorem Ed {v0:O Range} {v1 v2:Int} {r:(O Range)×Bool} (H:qi v0 v1 v2=some r):aB prog 86 [ag 3 Range.row v0,cI v1,cI v2] (·=.dp [ag 3 Range.row r.1,cB r.2]):=by
 obtain ⟨i126,tK,wQ,vr,Ht⟩:=BY
 refine aB.aS func86 rfl ntmps86 rfl λS hS=>?_
 unfold qi at H
 obtain ⟨y1,dI,H⟩:=af H
 obtain ⟨y2,gN,H⟩:=af H
 refine .A 19 [.b y1,.b y2] rfl ⟨rfl,λhg=>ax (en 66 rfl) rfl rfl (Ec (b6 gN hg)),rfl,rfl,rfl,ax (en 65 rfl) rfl rfl (qq dI)⟩ (.ite H rfl (λH=>?_) (λH=>?_))
 ·refine .E 5 rfl (.R func86 results86 rfl ?_)
  cases H
  exact .m rfl (.eP ⟨.nil 3,.av _,trivial⟩)
 ·refine .A 23 [.d (.agg (Range.row (⟨v1,v2,v2⟩:Range))),.r 0] rfl (az.g (aK Qp tK wQ rfl rfl)) (.tok (i:=8) (e:=126) (sz:=3) rfl (.bw (ι:=O Range×Bool×Int×Int) (λ⟨sy,A4,rp,rq⟩=>[(8,.bX 3 (sy.map Range.row) 0),(9,.ref 0 0),(10,.d (cB A4))]) (λ⟨sy,A4,rp,rq⟩=>⟨[.row 126 [.d (cI v1),.d (cI rp),.d (cI rq)]],[⟨126,3,sy.length,none⟩]⟩) (λs=>kY v1 s.1 s.2.1 s.2.2.1 s.2.2.2=some r) ?_ ?_))
  ·rintro ⟨sy,A4,rp,rq⟩ H
   replace H:kY v1 sy A4 rp rq=some r:=H
   unfold kY at H
   refine .E 6 rfl (.ite H rfl (λH=>?_) (λH=>?_))
   ·obtain ⟨cA,H⟩:=ab H
    refine .A 13 [.d (ag 3 Range.row ([(⟨v1,rp,rq⟩:Range)]:O Range)),.a 0 126 3 Range.row (sy++([(⟨v1,rp,rq⟩:Range)]:O Range))] rfl ⟨Hn.a rfl rfl rfl rfl cA,aC underlying26 tK vr wQ rfl rfl rfl rfl rfl⟩ (.R func86 results86 rfl ?_)
    cases H
    exact .m rfl (.eP ⟨.bX _ _ _,.av _,trivial⟩)
   ·refine .E 7 rfl (.R func86 results86 rfl ?_)
    cases H
    exact .m rfl (.eP ⟨.bX _ _ _,.av _,trivial⟩)
  ·intro ly eF
   refine .lp H (λ⟨bu,cm,ca,fE,fF⟩=>[(0,.d (ag 3 Range.row v0)),(1,.d (cI v1)),(2,.d (cI v2)),(8,.bX 3 (bu.map Range.row) 0),(9,.ref 0 0),(10,.d (cB cm)),(11,.d (cI ca))]) (λ⟨bu,cm,ca,fE,fF⟩=>⟨[.row 126 [.d (cI v1),.d (cI fE),.d (cI fF)]],[⟨126,3,bu.length,none⟩]⟩) (.k7 rfl rfl rfl rfl rfl rfl rfl (.nil)) rfl ?_
   rintro ⟨bu,cm,ca,fE,fF⟩ q1 H bt
   dsimp only at H
   unfold nJ at H
   refine .A 8 [.i (v0.length:Int)] rfl (Hn.n rfl rfl) (.ite H rfl (λH=>?_) (λH=>?_))
   ·obtain ⟨cP,H⟩:=ab H
    obtain ⟨dD,H⟩:=ab H
    refine .A 28 [.d (.ro (Range.row (nth v0 ca.toNat))),.r 1,.i (((nth v0 ca.toNat).qZ)+1)] rfl ⟨rfl,rfl,rfl,λhg=>ay rfl rfl (dD hg),rfl,rfl,Hn.ix rfl rfl rfl cP⟩ (.ite H rfl (λH=>?_) (λH=>?_))
    ·obtain ⟨dY,H⟩:=ab H
     refine .A 13 [.i (ca+1)] rfl (ay rfl rfl dY) ?_
     cases H
     exact .t 1 1 bt rfl rfl rfl rfl rfl hS rfl
    ·obtain ⟨fh,H⟩:=ab H
     refine .A 15 [.i ((nth v0 ca.toNat).from_ - 1)] rfl ⟨rfl,rfl,rfl,λhg=>gZ rfl rfl (fh hg),rfl,rfl⟩ (.ite H rfl (λH=>?_) (λH=>?_))
     ·obtain ⟨gM,H⟩:=ab H
      refine .A 13 [.i (ca+1)] rfl (ay rfl rfl gM) ?_
      cases H
      exact .t 1 1 bt rfl rfl rfl rfl rfl hS rfl
     ·refine .B 19 [] rfl ⟨rfl,rfl,rfl,rfl,rfl,rfl,rfl,rfl,rfl,rfl,rfl⟩ (.eN (env':=[(85,_),(89,_)]) rfl rfl rfl ⟨.inr (.inl rfl),⟨.inr (.inr ⟨_,_,rfl,rfl⟩),trivial⟩⟩ rfl (λhg=>az.g (cC rfl rfl rfl)) (.A 3 [] rfl rfl (.ite H rfl (λH=>?_) (λH=>?_))))
      ·obtain ⟨jX,H⟩:=ab H
       obtain ⟨mb,H⟩:=ab H
       refine .A 14 [.d (ag 3 Range.row ([nth v0 ca.toNat]:O Range)),.a 0 126 3 Range.row (bu++([nth v0 ca.toNat]:O Range)),.i (ca+1)] rfl ⟨ay rfl rfl mb,Hn.a rfl rfl rfl rfl jX,aC underlying26 tK vr wQ rfl rfl rfl rfl rfl⟩ ?_
       cases H
       exact .t 1 1 bt rfl rfl rfl rfl rfl hS rfl
      ·obtain ⟨pM,H⟩:=ab H
       obtain ⟨gO,H⟩:=ab H
       refine .A 19 [.d (ag 3 Range.row ([(⟨v1,fE,fF⟩:Range),nth v0 ca.toNat]:O Range)),.a 0 126 3 Range.row (bu++([(⟨v1,fE,fF⟩:Range),nth v0 ca.toNat]:O Range)),.i (ca+1)] rfl ⟨ay rfl rfl gO,Hn.a rfl rfl rfl rfl pM,pB (n:=2) (rows:=([(⟨v1,fE,fF⟩:Range),nth v0 ca.toNat]:O Range).map Range.row) underlying26 tK vr wQ rfl rfl rfl rfl rfl⟩ ?_
       cases H
       exact .t 1 1 bt rfl rfl rfl rfl rfl hS rfl
   ·refine .E 1 rfl ?_
    obtain ⟨q0,H9,lz⟩:=bK H;clear H;cases lz
    cases bt
    have H:=H9
    exact .z (eF (bu,cm,fE,fF) H) rfl rfl
theorem yX {re pj:aa} {r:Bool} (H:kZ re pj=some r):aB prog 114 [.agg (aa.row re),.agg (aa.row pj)] (·=cB r):=by
 refine aB.aS func114 rfl ntmps114 rfl λS hS=>?_
 unfold kZ at H
 refine .A 15 [.r 0,.r 1] rfl trivial (.ite H rfl (λH=>?_) (λH=>?_))
 ·refine .E 9 rfl (.R func114 results114 rfl ?_)
  cases H
  exact .m rfl (.av _)
 ·refine .E 10 rfl (.ite H rfl (λH=>?_) (λH=>?_))
  ·refine .E 9 rfl (.R func114 results114 rfl ?_)
   cases H
   exact .m rfl (.av _)
  ·refine .E 10 rfl (.R func114 results114 rfl ?_)
   cases H
   exact .m rfl (.av _)
theorem yY {cl:O aa} {lZ:aa} {r:(O aa)} (H:lf cl lZ=some r):aB prog 98 [ag 12 aa.row cl,.agg (aa.row lZ)] (·=ag 12 aa.row r):=by
 obtain ⟨i153,cH,cW,eB,m5⟩:=jn
 refine aB.aS func98 rfl ntmps98 rfl λS hS=>?_
 unfold lf at H
 refine .A 18 [.r 0] rfl trivial (.tok (i:=5) (e:=153) (sz:=12) rfl (.bw (ι:=O aa×Bool) (λ⟨fc,qj⟩=>[(3,.ref 0 0),(5,.bX 12 (fc.map aa.row) 0),(6,.d (cB qj))]) (λ⟨fc,qj⟩=>⟨[.row 153 [.d (cI lZ.source),.d (cI lZ.aF),.d (cI lZ.kind),.d (cS lZ.a),.d (cS lZ.b),.d (cI lZ.start),.d (cI lZ.aJ),.d (cI lZ.call),.d (cI lZ.part),.d (cB lZ.last),.d (cI lZ.bh),.d (cB lZ.aP)]],[dh fc.length]⟩) (λs=>gK lZ s.1 s.2=some r) ?_ ?_))
 ·rintro ⟨fc,qj⟩ H
  replace H:gK lZ fc qj=some r:=H
  unfold gK at H
  refine .E 6 rfl (.ite H rfl (λH=>?_) (λH=>?_))
  ·obtain ⟨cA,H⟩:=ab H
   refine .A 12 [.d (ag 12 aa.row ([lZ]:O aa)),.a 0 153 12 aa.row (fc++([lZ]:O aa))] rfl ⟨lC.a rfl rfl rfl rfl cA,aC underlying27 cH eB cW rfl rfl rfl rfl rfl⟩ (.R func98 results98 rfl ?_)
   cases H
   exact .m rfl (.bX _ _ _)
  ·refine .E 6 rfl (.R func98 results98 rfl ?_)
   cases H
   exact .m rfl (.bX _ _ _)
 ·intro ly eF
  refine .lp H (λ⟨bZ,iG,bn⟩=>[(0,.d (ag 12 aa.row cl)),(3,.ref 0 0),(5,.bX 12 (bZ.map aa.row) 0),(6,.d (cB iG)),(7,.d (cI bn))]) (λ⟨bZ,iG,bn⟩=>⟨[.row 153 [.d (cI lZ.source),.d (cI lZ.aF),.d (cI lZ.kind),.d (cS lZ.a),.d (cS lZ.b),.d (cI lZ.start),.d (cI lZ.aJ),.d (cI lZ.call),.d (cI lZ.part),.d (cB lZ.last),.d (cI lZ.bh),.d (cB lZ.aP)]],[dh bZ.length]⟩) (.k5 rfl rfl rfl rfl rfl (.nil)) rfl ?_
  rintro ⟨bZ,iG,bn⟩ q1 H bt
  dsimp only at H
  unfold jU at H
  refine .A 8 [.i (cl.length:Int)] rfl (lC.n rfl rfl) (.ite H rfl (λH=>?_) (λH=>?_))
  ·refine .E 3 rfl (.di (ι:=O aa×Bool) (λ⟨nK,qk⟩=>[(0,.d (ag 12 aa.row cl)),(3,.ref 0 0),(5,.bX 12 (nK.map aa.row) 0),(6,.d (cB qk)),(7,.d (cI bn))]) (λ⟨nK,qk⟩=>⟨[.row 153 [.d (cI lZ.source),.d (cI lZ.aF),.d (cI lZ.kind),.d (cS lZ.a),.d (cS lZ.b),.d (cI lZ.start),.d (cI lZ.aJ),.d (cI lZ.call),.d (cI lZ.part),.d (cB lZ.last),.d (cI lZ.bh),.d (cB lZ.aP)]],[dh nK.length]⟩) (λs=>fk cl bn s.1 s.2=some q1) ?_ ?_)
   ·rintro ⟨nK,qk⟩ H
    replace H:fk cl bn nK qk=some q1:=H
    unfold fk at H
    obtain ⟨cP,H⟩:=ab H
    obtain ⟨dD,H⟩:=ab H
    obtain ⟨dY,H⟩:=ab H
    refine .A 16 [.d (.ro (aa.row (nth cl bn.toNat))),.d (ag 12 aa.row ([nth cl bn.toNat]:O aa)),.a 0 153 12 aa.row (nK++([nth cl bn.toNat]:O aa)),.i (bn+1)] rfl ⟨ay rfl rfl dY,lC.a rfl rfl rfl rfl dD,aC underlying27 cH eB cW rfl rfl rfl rfl rfl,lC.ix rfl rfl rfl cP⟩ ?_
    cases H
    exact .z bt rfl rfl
   ·intro ru
    obtain ⟨fh,H⟩:=ab H
    obtain ⟨y1,dI,H⟩:=af H
    refine .A 14 [.p 10,.d (.ro (aa.row (nth cl bn.toNat))),.b y1] rfl ⟨rfl,λhg=>ax (en 67 rfl) rfl rfl (yX (b6 dI hg)),rfl,rfl,rfl,λhg=>lC.ix rfl rfl rfl (fh hg),rfl,rfl,(show _=true by kernel_rfl)⟩ (.ite H rfl (λH=>?_) (λH=>?_))
    ·obtain ⟨gM,H⟩:=ab H
     exact .A 11 [.d (ag 12 aa.row ([lZ]:O aa)),.a 0 153 12 aa.row (bZ++([lZ]:O aa))] rfl ⟨lC.a rfl rfl rfl rfl gM,aC underlying27 cH eB cW rfl rfl rfl rfl rfl⟩ (.z (ru (bZ++([lZ]:O aa),true) H) rfl rfl)
    ·exact .E 1 rfl (.z (ru (bZ,iG) H) rfl rfl)
  ·refine .E 1 rfl ?_
   obtain ⟨q0,H9,lz⟩:=bK H;clear H;cases lz
   cases bt
   have H:=H9
   exact .z (eF (bZ,iG) H) rfl rfl
theorem vt {re pj:aa} {r:Bool} (H:l8 re pj=some r):aB prog 115 [.agg (aa.row re),.agg (aa.row pj)] (·=cB r):=by
 refine aB.aS func115 rfl ntmps115 rfl λS hS=>?_
 unfold l8 at H
 refine .A 22 [.r 0,.r 1] rfl ⟨rfl,rfl,rfl,rfl,rfl⟩ (.R func115 results115 rfl ?_)
 cases H
 exact .m rfl (.av _)
theorem yZ {cl:O aa} {CQ:aa} {lP:Bool} {r:(O Int)} (H:lg cl CQ lP=some r):aB prog 100 [ag 12 aa.row cl,.agg (aa.row CQ),cB lP] (·=ag 1 rI r):=by
 obtain ⟨i3,ji,rL,mc,Fp⟩:=u3
 refine aB.aS func100 rfl ntmps100 rfl λS hS=>?_
 unfold lg at H
 refine .A 15 [.r 0] rfl trivial (.tok (i:=7) (e:=3) (sz:=1) rfl (.lp H (λ⟨cV,bO⟩=>[(0,.d (ag 12 aa.row cl)),(2,.d (cB lP)),(4,.ref 0 0),(7,.bX 1 (cV.map rI) 0),(8,.d (cI bO))]) (λ⟨cV,bO⟩=>⟨[.row 153 [.d (cI CQ.source),.d (cI CQ.aF),.d (cI CQ.kind),.d (cS CQ.a),.d (cS CQ.b),.d (cI CQ.start),.d (cI CQ.aJ),.d (cI CQ.call),.d (cI CQ.part),.d (cB CQ.last),.d (cI CQ.bh),.d (cB CQ.aP)]],[u5 cV.length]⟩) (.k5 rfl rfl rfl rfl rfl (.nil)) rfl ?_))
 rintro ⟨cV,bO⟩ q1 H bt
 dsimp only at H
 unfold jV at H
 refine .A 8 [.i (cl.length:Int)] rfl (lC.n rfl rfl) (.ite H rfl (λH=>?_) (λH=>?_))
 ·obtain ⟨cA,H⟩:=ab H
  obtain ⟨y1,dI,H⟩:=af H
  obtain ⟨cP,H⟩:=ab H
  obtain ⟨dD,H⟩:=ab H
  refine .A 24 [.p 17,.d (.ro (aa.row (nth cl bO.toNat))),.b y1,.d (.ro (aa.row (nth cl bO.toNat))),.i (cV.length:Int),.i ((cV.length:Int)+1)] rfl ⟨rfl,rfl,rfl,λhg=>ay rfl rfl (dD hg),rfl,λhg=>jq.n rfl rfl,rfl,rfl,rfl,λhg=>lC.ix rfl rfl rfl (cP hg),rfl,rfl,ax (en 68 rfl) rfl rfl (vt dI),lC.ix rfl rfl rfl cA,(show _=true by kernel_rfl)⟩ (.ite H rfl (λH=>?_) (λH=>?_))
  ·obtain ⟨dY,H⟩:=ab H
   obtain ⟨fh,H⟩:=ab H
   refine .A 19 [.d (ag 1 rI ([bO]:O Int)),.a 0 3 1 rI (cV++([bO]:O Int)),.d (.ro (aa.row (nth cl bO.toNat)))] rfl ⟨rfl,rfl,rfl,λhg=>lC.ix rfl rfl rfl (fh hg),rfl,rfl,jq.a rfl rfl rfl rfl dY,aC underlying100 ji mc rL rfl rfl rfl rfl rfl⟩ (.ite H rfl (λH=>?_) (λH=>?_))
   ·refine .E 6 rfl (.R func100 results100 rfl ?_)
    cases H
    cases bt
    exact .m rfl (.bX _ _ _)
   ·obtain ⟨gM,H⟩:=ab H
    refine .A 7 [.i (bO+1)] rfl (ay rfl rfl gM) ?_
    cases H
    exact .z bt rfl rfl
  ·obtain ⟨jX,H⟩:=ab H
   refine .A 7 [.i (bO+1)] rfl (ay rfl rfl jX) ?_
   cases H
   exact .z bt rfl rfl
 ·refine .E 6 rfl (.R func100 results100 rfl ?_)
  cases H
  cases bt
  exact .m rfl (.bX _ _ _)
theorem Ck {aM:O aa} {w5:O Int} {r:(O aa)×(O aa)} (H:oM aM w5=some r):aB prog 99 [ag 12 aa.row aM,ag 1 rI w5] (·=.dp [ag 12 aa.row r.1,ag 12 aa.row r.2]):=by
 obtain ⟨i153,cH,cW,eB,m5⟩:=jn
 refine aB.aS func99 rfl ntmps99 rfl λS hS=>?_
 unfold oM at H
 refine .E 20 rfl (.tok (i:=6) (e:=153) (sz:=12) rfl (.tok (i:=7) (e:=153) (sz:=12) rfl (.lp H (λ⟨dK,jJ,po,a9⟩=>[(0,.d (ag 12 aa.row aM)),(1,.d (ag 1 rI w5)),(6,.bX 12 (dK.map aa.row) 0),(7,.bX 12 (jJ.map aa.row) 1),(8,.d (cI po)),(9,.d (cI a9))]) (λ⟨dK,jJ,po,a9⟩=>⟨[],[dh dK.length,dh jJ.length]⟩) (.k6 rfl rfl rfl rfl rfl rfl (.nil)) rfl ?_)))
 rintro ⟨dK,jJ,po,a9⟩ q1 H bt
 dsimp only at H
 unfold mw at H
 refine .A 8 [.i (aM.length:Int)] rfl (lC.n rfl rfl) (.ite H rfl (λH=>?_) (λH=>?_))
 ·obtain ⟨cA,H⟩:=ab H
  refine .A 18 [.i (w5.length:Int),.d (.ro (rI (nth w5 po.toNat)))] rfl ⟨rfl,rfl,rfl,rfl,λhg=>jq.ix rfl rfl rfl (cA hg),rfl,rfl,jq.n rfl rfl⟩ (.ite H rfl (λH=>?_) (λH=>?_))
  ·obtain ⟨cP,H⟩:=ab H
   obtain ⟨dD,H⟩:=ab H
   obtain ⟨dY,H⟩:=ab H
   obtain ⟨fh,H⟩:=ab H
   refine .A 22 [.d (.ro (aa.row (nth aM a9.toNat))),.d (ag 12 aa.row ([nth aM a9.toNat]:O aa)),.a 0 153 12 aa.row (dK++([nth aM a9.toNat]:O aa)),.i (po+1),.i (a9+1)] rfl ⟨ay rfl rfl fh,ay rfl rfl dY,lC.a rfl rfl rfl rfl dD,aC underlying27 cH eB cW rfl rfl rfl rfl rfl,lC.ix rfl rfl rfl cP⟩ ?_
   cases H
   exact .z bt rfl rfl
  ·obtain ⟨gM,H⟩:=ab H
   obtain ⟨jX,H⟩:=ab H
   obtain ⟨mb,H⟩:=ab H
   refine .A 16 [.d (.ro (aa.row (nth aM a9.toNat))),.d (ag 12 aa.row ([nth aM a9.toNat]:O aa)),.a 1 153 12 aa.row (jJ++([nth aM a9.toNat]:O aa)),.i (a9+1)] rfl ⟨ay rfl rfl mb,lC.a rfl rfl rfl rfl jX,aC underlying27 cH eB cW rfl rfl rfl rfl rfl,lC.ix rfl rfl rfl gM⟩ ?_
   cases H
   exact .z bt rfl rfl
 ·refine .E 8 rfl (.R func99 results99 rfl ?_)
  cases H
  cases bt
  exact .m rfl (.eP ⟨.bX _ _ _,.bX _ _ _,trivial⟩)
theorem pH {MA:aa} {r:Int} (H:fx MA=some r):aB prog 102 [.agg (aa.row MA)] (·=cI r):=by
 refine aB.aS func102 rfl ntmps102 rfl λS hS=>?_
 unfold fx at H
 obtain ⟨y1,dI,H⟩:=af H
 refine .A 11 [.r 0,.i y1] rfl (ax (en 41 rfl) rfl rfl (jL dI)) (.R func102 results102 rfl ?_)
 cases H
 exact .m rfl (.av _)
theorem Ar {v0:O aa} {r:aa×Bool} (H:kf v0=some r):aB prog 116 [ag 12 aa.row v0] (·=.dp [.agg (aa.row r.1),cB r.2]):=by
 obtain ⟨i153,cH,cW,eB,m5⟩:=jn
 refine aB.aS func116 rfl ntmps116 rfl λS hS=>?_
 unfold kf at H
 refine .A 14 [.r 0,.r 1] rfl trivial (.bw (ι:=Int×Int×Int×O uA×O uA×Int×Int×Int×Bool) (λ⟨kO,kP,kQ,kR,cU,kS,kT,hO,hP⟩=>[(0,.d (ag 12 aa.row v0)),(2,.ref 0 0),(4,.ref 1 0)]) (λ⟨kO,kP,kQ,kR,cU,kS,kT,hO,hP⟩=>⟨[.row 153 [.d (cI 0),.d (cI 0),.d (cI 0),.d (cS ([]:O uA)),.d (cS ([]:O uA)),.d (cI 0),.d (cI 0),.d (cI 0),.d (cI 0),.d (cB false),.d (cI 0),.d (cB false)],.row 153 [.d (cI kO),.d (cI kP),.d (cI kQ),.d (cS kR),.d (cS cU),.d (cI kS),.d (cI kT),.d (cI 0),.d (cI 0),.d (cB false),.d (cI hO),.d (cB hP)]],[]⟩) (λs=>iH v0 s.1 s.2.1 s.2.2.1 s.2.2.2.1 s.2.2.2.2.1 s.2.2.2.2.2.1 s.2.2.2.2.2.2.1 s.2.2.2.2.2.2.2.1 s.2.2.2.2.2.2.2.2=some r) ?_ ?_)
 ·rintro ⟨kO,kP,kQ,kR,cU,kS,kT,hO,hP⟩ H
  replace H:iH v0 kO kP kQ kR cU kS kT hO hP=some r:=H
  unfold iH at H
  refine .A 9 [.i (v0.length:Int)] rfl (lC.n rfl rfl) (.R func116 results116 rfl ?_)
  cases H
  exact .m rfl (.cZ rfl)
 ·intro ly eF
  refine .lp H (λ⟨da,ch,bz,bA,bP,bQ,bR,fT,fM,fN⟩=>[(0,.d (ag 12 aa.row v0)),(2,.ref 0 0),(4,.ref 1 0),(5,.d (cI da))]) (λ⟨da,ch,bz,bA,bP,bQ,bR,fT,fM,fN⟩=>⟨[.row 153 [.d (cI 0),.d (cI 0),.d (cI 0),.d (cS ([]:O uA)),.d (cS ([]:O uA)),.d (cI 0),.d (cI 0),.d (cI 0),.d (cI 0),.d (cB false),.d (cI 0),.d (cB false)],.row 153 [.d (cI ch),.d (cI bz),.d (cI bA),.d (cS bP),.d (cS bQ),.d (cI bR),.d (cI fT),.d (cI 0),.d (cI 0),.d (cB false),.d (cI fM),.d (cB fN)]],[]⟩) (.k4 rfl rfl rfl rfl (.nil)) rfl ?_
  rintro ⟨da,ch,bz,bA,bP,bQ,bR,fT,fM,fN⟩ q1 H bt
  dsimp only at H
  unfold lh at H
  refine .A 8 [.i (v0.length:Int)] rfl (lC.n rfl rfl) (.ite H rfl (λH=>?_) (λH=>?_))
  ·obtain ⟨cA,H⟩:=ab H
   obtain ⟨y1,dI,H⟩:=af H
   refine .A 24 [.d (.ro (aa.row (nth v0 da.toNat))),.r 2,.i y1] rfl ⟨rfl,rfl,λhg=>ax (en 69 rfl) rfl rfl (pH (b6 dI hg)),rfl,lC.ix rfl rfl rfl cA⟩ (.ite H rfl (λH=>?_) (λH=>?_))
   ·refine .A 6 [.d (.agg (aa.row kq5))] rfl (az.g (aK jo cH cW rfl rfl)) (.R func116 results116 rfl ?_)
    cases H
    cases bt
    exact .m rfl (.cZ rfl)
   ·obtain ⟨cP,H⟩:=ab H
    obtain ⟨dD,H⟩:=ab H
    obtain ⟨y2,gN,H⟩:=af H
    refine .A 61 [.i (fT+((nth v0 da.toNat).aJ)),.d (.ro (aa.row (nth v0 (Int.toNat (0))))),.r 3,.b y2,.b ((nth v0 da.toNat).aP != (nth v0 (Int.toNat (0))).aP)] rfl ⟨rfl,λhg=>az.g (Fw rfl underlying4 rfl),rfl,rfl,rfl,rfl,rfl,rfl,rfl,rfl,rfl,rfl,rfl,rfl,rfl,rfl,rfl,rfl,rfl,rfl,rfl,rfl,rfl,rfl,rfl,rfl,ax (en 68 rfl) rfl rfl (vt gN),lC.ix rfl rfl rfl dD,ay rfl rfl cP⟩ (.ite H rfl (λH=>?_) (λH=>?_))
    ·refine .A 6 [.d (.agg (aa.row kq5))] rfl (az.g (aK jo cH cW rfl rfl)) (.R func116 results116 rfl ?_)
     cases H
     cases bt
     exact .m rfl (.cZ rfl)
    ·obtain ⟨y3,mA,H⟩:=af H
     refine .A 33 [.i y3] rfl (ax (en 69 rfl) rfl rfl (pH mA)) (.ite H rfl (λH=>?_) (λH=>?_))
     ·refine .A 6 [.d (.agg (aa.row kq5))] rfl (az.g (aK jo cH cW rfl rfl)) (.R func116 results116 rfl ?_)
      cases H
      cases bt
      exact .m rfl (.cZ rfl)
     ·obtain ⟨dY,H⟩:=ab H
      refine .A 7 [.i (da+1)] rfl (ay rfl rfl dY) ?_
      cases H
      exact .t 2 0 bt rfl rfl rfl rfl rfl hS rfl
  ·refine .E 1 rfl ?_
   obtain ⟨q0,H9,lz⟩:=bK H;clear H;cases lz
   cases bt
   have H:=H9
   exact .z (eF (ch,bz,bA,bP,bQ,bR,fT,fM,fN) H) rfl rfl
theorem wh {cY:O aa} {r:aa×Bool} (H:iI cY=some r):aB prog 101 [ag 12 aa.row cY] (·=.dp [.agg (aa.row r.1),cB r.2]):=by
 obtain ⟨i153,cH,cW,eB,m5⟩:=jn
 refine aB.aS func101 rfl ntmps101 rfl λS hS=>?_
 unfold iI at H
 refine .A 10 [.r 0] rfl trivial (.bw (ι:=Unit) (λ_=>[(0,.d (ag 12 aa.row cY)),(2,.ref 0 0)]) (λ_=>⟨[.row 153 [.d (cI 0),.d (cI 0),.d (cI 0),.d (cS ([]:O uA)),.d (cS ([]:O uA)),.d (cI 0),.d (cI 0),.d (cI 0),.d (cI 0),.d (cB false),.d (cI 0),.d (cB false)]],[]⟩) (λs=>fz cY=some r) ?_ ?_)
 ·rintro _ H
  replace H:fz cY=some r:=H
  unfold fz at H
  obtain ⟨y1,dI,H⟩:=af H
  refine .A 9 [.d (.dp [.agg (aa.row y1.1),cB y1.2])] rfl (ax (en 70 rfl) rfl rfl (Ar dI)) (.R func101 results101 rfl ?_)
  cases H
  exact .m rfl (.cZ rfl)
 ·intro ly eF
  refine .lp H (λaq=>[(0,.d (ag 12 aa.row cY)),(2,.ref 0 0),(4,.d (cI aq))]) (λaq=>⟨[.row 153 [.d (cI 0),.d (cI 0),.d (cI 0),.d (cS ([]:O uA)),.d (cS ([]:O uA)),.d (cI 0),.d (cI 0),.d (cI 0),.d (cI 0),.d (cB false),.d (cI 0),.d (cB false)]],[]⟩) (.k3 rfl rfl rfl (.nil)) rfl ?_
  rintro aq q1 H bt
  unfold hZ at H
  refine .A 8 [.i (cY.length:Int)] rfl (lC.n rfl rfl) (.ite H rfl (λH=>?_) (λH=>?_))
  ·obtain ⟨cA,H⟩:=ab H
   obtain ⟨cP,H⟩:=ab H
   obtain ⟨dD,H⟩:=ab H
   obtain ⟨dY,H⟩:=ab H
   refine .A 27 [.d (.ro (aa.row (nth cY aq.toNat))),.i (aq+1),.d (.ro (aa.row (nth cY aq.toNat))),.i (aq+1),.i (cY.length:Int),.b ((nth cY aq.toNat).last != ((aq+1)==(cY.length:Int)))] rfl ⟨rfl,λhg=>az.g (Fw rfl underlying4 rfl),rfl,rfl,rfl,rfl,λhg=>lC.n rfl rfl,rfl,λhg=>ay rfl rfl (dY hg),rfl,rfl,rfl,λhg=>lC.ix rfl rfl rfl (dD hg),rfl,rfl,ay rfl rfl cP,lC.ix rfl rfl rfl cA⟩ (.ite H rfl (λH=>?_) (λH=>?_))
   ·refine .A 6 [.d (.agg (aa.row kq5))] rfl (az.g (aK jo cH cW rfl rfl)) (.R func101 results101 rfl ?_)
    cases H
    cases bt
    exact .m rfl (.cZ rfl)
   ·obtain ⟨fh,H⟩:=ab H
    refine .A 7 [.i (aq+1)] rfl (ay rfl rfl fh) ?_
    cases H
    exact .z bt rfl rfl
  ·refine .E 1 rfl ?_
   obtain ⟨q0,H9,lz⟩:=bK H;clear H;cases lz
   cases bt
   have H:=H9
   exact .z (eF () H) rfl rfl
theorem Cl {v0 v1:O aa} {r:(O aa)×(O aa)} (H:oN v0 v1=some r):aB prog 87 [ag 12 aa.row v0,ag 12 aa.row v1] (·=.dp [ag 12 aa.row r.1,ag 12 aa.row r.2]):=by
 obtain ⟨i153,cH,cW,eB,m5⟩:=jn
 refine aB.aS func87 rfl ntmps87 rfl λS hS=>?_
 unfold oN at H
 obtain ⟨cA,H⟩:=ab H
 refine .A 22 [.d (.e0 12),.d (ag 12 aa.row v0)] rfl ⟨eO (l':=v0) (row:=aa.row) underlying27 cH cW eB rfl (by rw[m5];decide) rfl (.inl rfl) rfl rfl cA,(eB▸bp underlying27 cH)⟩ ?_
 refine .tok (i:=6) (e:=153) (sz:=12) rfl (.lp H (λ⟨bc,aW,bu⟩=>[(1,.d (ag 12 aa.row v1)),(6,.bX 12 (bc.map aa.row) 0),(7,.d (ag 12 aa.row aW)),(8,.d (cI bu))]) (λ⟨bc,aW,bu⟩=>⟨[],[dh bc.length]⟩) (.k4 rfl rfl rfl rfl (.nil)) rfl ?_)
 rintro ⟨bc,aW,bu⟩ q1 H bt
 dsimp only at H
 unfold my at H
 refine .A 8 [.i (v1.length:Int)] rfl (lC.n rfl rfl) (.ite H rfl (λH=>?_) (λH=>?_))
 ·obtain ⟨cP,H⟩:=ab H
  refine .A 13 [.d (.ro (aa.row (nth v1 bu.toNat)))] rfl (lC.ix rfl rfl rfl cP) (.ite H rfl (λH=>?_) (λH=>?_))
  ·obtain ⟨dD,H⟩:=ab H
   obtain ⟨dY,H⟩:=ab H
   obtain ⟨fh,H⟩:=ab H
   refine .A 17 [.d (.ro (aa.row (nth v1 bu.toNat))),.d (ag 12 aa.row ([nth v1 bu.toNat]:O aa)),.a 0 153 12 aa.row (bc++([nth v1 bu.toNat]:O aa)),.i (bu+1)] rfl ⟨ay rfl rfl fh,lC.a rfl rfl rfl rfl dY,aC underlying27 cH eB cW rfl rfl rfl rfl rfl,lC.ix rfl rfl rfl dD⟩ ?_
   cases H
   exact .z bt rfl rfl
  ·obtain ⟨gM,H⟩:=ab H
   obtain ⟨y1,dI,H⟩:=af H
   refine .A 12 [.d (.ro (aa.row (nth v1 bu.toNat))),.d (ag 12 aa.row y1)] rfl ⟨ax (en 71 rfl) rfl rfl (yY dI),lC.ix rfl rfl rfl gM⟩ (.lp H (λ⟨B7,Ga⟩=>[(1,.d (ag 12 aa.row v1)),(6,.bX 12 (B7.map aa.row) 0),(7,.d (ag 12 aa.row Ga)),(8,.d (cI bu))]) (λ⟨B7,Ga⟩=>⟨[],[dh B7.length]⟩) (.k4 rfl rfl rfl rfl (.nil)) rfl ?_)
   rintro ⟨B7,Ga⟩ q2 H Ni
   dsimp only at H
   unfold mx at H
   obtain ⟨jX,H⟩:=ab H
   obtain ⟨y2,gN,H⟩:=af H
   obtain ⟨y3,mA,H⟩:=af H
   obtain ⟨y4,vf,H⟩:=af H
   refine .A 34 [.d (.ro (aa.row (nth v1 bu.toNat))),.d (ag 1 rI y2),.d (.dp [ag 12 aa.row y3.1,ag 12 aa.row y3.2]),.d (.dp [.agg (aa.row y4.1),cB y4.2]),.r 0] rfl ⟨ax (en 72 rfl) rfl rfl (wh vf),ax (en 73 rfl) rfl rfl (Ck mA),ax (en 74 rfl) rfl rfl (yZ gN),lC.ix rfl rfl rfl jX⟩ (.ite H rfl (λH=>?_) (λH=>?_))
   ·obtain ⟨mb,H⟩:=ab H
    refine .A 7 [.i (bu+1)] rfl (ay rfl rfl mb) ?_
    cases H
    cases Ni
    exact .t 0 1 bt rfl rfl rfl rfl rfl hS rfl
   ·obtain ⟨pM,H⟩:=ab H
    refine .A 14 [.d (ag 12 aa.row ([y4.1]:O aa)),.a 0 153 12 aa.row (B7++([y4.1]:O aa))] rfl ⟨lC.a rfl rfl rfl rfl pM,aC underlying27 cH eB cW rfl rfl rfl rfl rfl⟩ ?_
    cases H
    exact .t 0 1 Ni rfl rfl rfl rfl rfl hS rfl
 ·refine .E 8 rfl (.R func87 results87 rfl ?_)
  cases H
  cases bt
  exact .m rfl (.eP ⟨.bX _ _ _,.av _,trivial⟩)
theorem za {v0:bE} {v1:Batch} {v2:bJ} {r:bE×(O aa)×(O aj)×Int} (H:lj v0 v1 v2=some r):aB prog 64 [.agg (bE.row v0),.agg (Batch.row v1),.agg (bJ.row v2)] (·=.dp [.agg (bE.row r.1),ag 12 aa.row r.2.1,ag 4 aj.row r.2.2.1,cI r.2.2.2]):=by
 obtain ⟨i30,K2,K3,Vz,VA⟩:=OW
 obtain ⟨i90,xa,Aj,IP,QN⟩:=Hj
 obtain ⟨i126,tK,wQ,vr,Ht⟩:=BY
 obtain ⟨i153,cH,cW,eB,m5⟩:=jn
 obtain ⟨i178,nt,pq,rN,A7⟩:=ue
 refine aB.aS func64 rfl ntmps64 rfl λS hS=>?_
 unfold lj at H
 obtain ⟨y1,dI,H⟩:=af H
 refine .A 22 [.r 0,.r 1,.r 2,.r 3,.i y1] rfl (ax (en 75 rfl) rfl rfl (Aq dI)) (.ite H rfl (λH=>?_) (λH=>?_))
 ·refine .A 9 [.d (.agg (bE.row kq2))] rfl (az.g (az.le (aK Hm K2 K3 rfl rfl) (dB.d (.agg ⟨.nil 3,.nil 12,.nil 4,trivial⟩)))) (.R func64 results64 rfl ?_)
  cases H
  exact .m rfl (.eP ⟨.av _,.nil 12,.nil 4,.av _,trivial⟩)
 ·obtain ⟨y2,gN,H⟩:=af H
  refine .A 13 [.p 7,.i y2] rfl ⟨ax (en 76 rfl) rfl rfl (Cj gN),(show _=true by kernel_rfl)⟩ (.ite H rfl (λH=>?_) (λH=>?_))
  ·refine .A 8 [.d (.agg (bE.row kq2))] rfl (az.g (az.le (aK Hm K2 K3 rfl rfl) (dB.d (.agg ⟨.nil 3,.nil 12,.nil 4,trivial⟩)))) (.R func64 results64 rfl ?_)
   cases H
   exact .m rfl (.eP ⟨.av _,.nil 12,.nil 4,.av _,trivial⟩)
  ·obtain ⟨cA,H⟩:=ab H
   refine .A 22 [.d (.e0 3),.d (ag 3 Range.row v0.seen)] rfl ⟨eO (l':=v0.seen) (row:=Range.row) underlying26 tK wQ vr rfl (by rw[Ht];decide) rfl (.inl rfl) rfl rfl cA,(vr▸bp underlying26 tK)⟩ ?_
   refine .tok (i:=12) (e:=153) (sz:=12) rfl (.tok (i:=13) (e:=178) (sz:=4) rfl (.bw (ι:=O Range×O aa×O aj) (λ⟨yG,yH,pg⟩=>[(3,.ref 0 0),(4,.ref 1 0),(6,.ref 3 0),(11,.d (ag 3 Range.row yG)),(12,.bX 12 (yH.map aa.row) 0),(13,.bX 4 (pg.map aj.row) 1)]) (λ⟨yG,yH,pg⟩=>⟨[.row 30 [.d (ag 3 Range.row v0.seen),.d (ag 12 aa.row v0.open_),.d (ag 4 Head.row v0.aX)],.row 121 [.d (cI v1.source),.d (cI v1.number),.d (cI v1.format),.d (ag 12 aa.row v1.records)],.row 37 [.d (cI v2.kt),.d (cI v2.ra)],.row 30 [.d bT,.d bT,.d bT]],[dh yH.length,jb pg.length]⟩) (λs=>gL v0 v1 s.1 s.2.1 s.2.2=some r) ?_ ?_))
   ·rintro ⟨yG,yH,pg⟩ H
    replace H:gL v0 v1 yG yH pg=some r:=H
    unfold gL at H
    obtain ⟨y3,mA,H⟩:=af H
    obtain ⟨cP,H⟩:=ab H
    obtain ⟨dD,H⟩:=ab H
    refine let z0:=(([]:O Head)++v0.aX);.A 50 [.d (.dp [ag 12 aa.row y3.1,ag 12 aa.row y3.2]),.n (.bX 4 (([]:O Head).map Head.row) 2) ⟨90,4,([]:O Head).length,none⟩,.a 2 90 4 Head.row z0,.i (v1.records.length:Int),.d (.agg (Head.row (⟨v1.source,v1.number,v1.format,(v1.records.length:Int)⟩:Head))),.d (ag 4 Head.row ([(⟨v1.source,v1.number,v1.format,(v1.records.length:Int)⟩:Head)]:O Head)),.a 2 90 4 Head.row (z0++([(⟨v1.source,v1.number,v1.format,(v1.records.length:Int)⟩:Head)]:O Head)),.d (.agg (bE.row (⟨yG,y3.2,z0++([(⟨v1.source,v1.number,v1.format,(v1.records.length:Int)⟩:Head)]:O Head)⟩:bE)))] rfl ⟨az.g (aK Hm K2 K3 rfl rfl),Nc.a rfl rfl rfl rfl dD,aC underlying28 xa IP Aj rfl rfl rfl rfl rfl,az.g (aK AV xa Aj rfl rfl),lC.n rfl rfl,Nc.a rfl rfl rfl rfl cP,.e (lL underlying28 xa IP) rfl,ax (en 77 rfl) rfl rfl (Cl mA)⟩ ?_
    refine .R func64 results64 rfl ?_
    cases H
    exact .m rfl (.eP ⟨.av _,.av _,.bX _ _ _,.av _,trivial⟩)
   ·intro ly eF
    refine .lp H (λ⟨ca,lE,eW,bj⟩=>[(3,.ref 0 0),(4,.ref 1 0),(5,.ref 2 0),(6,.ref 3 0),(11,.d (ag 3 Range.row ca)),(12,.bX 12 (lE.map aa.row) 0),(13,.bX 4 (eW.map aj.row) 1),(14,.d (cI bj))]) (λ⟨ca,lE,eW,bj⟩=>⟨[.row 30 [.d (ag 3 Range.row v0.seen),.d (ag 12 aa.row v0.open_),.d (ag 4 Head.row v0.aX)],.row 121 [.d (cI v1.source),.d (cI v1.number),.d (cI v1.format),.d (ag 12 aa.row v1.records)],.row 37 [.d (cI v2.kt),.d (cI v2.ra)],.row 30 [.d bT,.d bT,.d bT]],[dh lE.length,jb eW.length]⟩) (.k8 rfl rfl rfl rfl rfl rfl rfl rfl (.nil)) rfl ?_
    rintro ⟨ca,lE,eW,bj⟩ q1 H bt
    dsimp only at H
    unfold jW at H
    refine .A 9 [.i (v1.records.length:Int)] rfl (lC.n rfl rfl) (.ite H rfl (λH=>?_) (λH=>?_))
    ·obtain ⟨dY,H⟩:=ab H
     obtain ⟨y4,vf,H⟩:=af H
     refine .A 20 [.d (.ro (aa.row (nth v1.records bj.toNat))),.r 4,.i y4] rfl ⟨ax (en 78 rfl) rfl rfl (yW vf),lC.ix rfl rfl rfl dY⟩ (.di (ι:=Int) (λtF=>[(3,.ref 0 0),(4,.ref 1 0),(5,.ref 2 0),(6,.ref 3 0),(11,.d (ag 3 Range.row ca)),(12,.bX 12 (lE.map aa.row) 0),(13,.bX 4 (eW.map aj.row) 1),(14,.d (cI bj)),(15,.ref 4 0),(16,.d (cI tF))]) (λtF=>⟨[.row 30 [.d (ag 3 Range.row v0.seen),.d (ag 12 aa.row v0.open_),.d (ag 4 Head.row v0.aX)],.row 121 [.d (cI v1.source),.d (cI v1.number),.d (cI v1.format),.d (ag 12 aa.row v1.records)],.row 37 [.d (cI v2.kt),.d (cI v2.ra)],.row 30 [.d bT,.d bT,.d bT],.row 153 [.d (cI (nth v1.records bj.toNat).source),.d (cI (nth v1.records bj.toNat).aF),.d (cI (nth v1.records bj.toNat).kind),.d (cS (nth v1.records bj.toNat).a),.d (cS (nth v1.records bj.toNat).b),.d (cI (nth v1.records bj.toNat).start),.d (cI (nth v1.records bj.toNat).aJ),.d (cI (nth v1.records bj.toNat).call),.d (cI (nth v1.records bj.toNat).part),.d (cB (nth v1.records bj.toNat).last),.d (cI (nth v1.records bj.toNat).bh),.d (cB (nth v1.records bj.toNat).aP)]],[dh lE.length,jb eW.length]⟩) (λs=>et v1 ca lE eW bj s=some q1) ?_ ?_)
     ·rintro tF H
      replace H:et v1 ca lE eW bj tF=some q1:=H
      unfold et at H
      obtain ⟨fh,H⟩:=ab H
      obtain ⟨gM,H⟩:=ab H
      refine .A 19 [.d (.agg (aj.row (⟨(nth v1.records bj.toNat).source,(nth v1.records bj.toNat).aF,bj,tF⟩:aj))),.d (ag 4 aj.row ([(⟨(nth v1.records bj.toNat).source,(nth v1.records bj.toNat).aF,bj,tF⟩:aj)]:O aj)),.a 1 178 4 aj.row (eW++([(⟨(nth v1.records bj.toNat).source,(nth v1.records bj.toNat).aF,bj,tF⟩:aj)]:O aj)),.i (bj+1)] rfl ⟨ay rfl rfl gM,O0.a rfl rfl rfl rfl fh,aC underlying32 nt rN pq rfl rfl rfl rfl rfl,az.g (aK B2 nt pq rfl rfl)⟩ ?_
      cases H
      exact .t 4 2 bt rfl rfl rfl rfl rfl hS rfl
     ·intro ru
      refine .E 5 rfl (.ite H rfl (λH=>?_) (λH=>?_))
      ·obtain ⟨y5,Ad,H⟩:=af H
       refine .A 19 [.d (.dp [ag 3 Range.row y5.1,cB y5.2])] rfl (ax (en 79 rfl) rfl rfl (Ed Ad)) (.ite H rfl (λH=>?_) (λH=>?_))
       ·obtain ⟨jX,H⟩:=ab H
        obtain ⟨mb,H⟩:=ab H
        refine .A 19 [.d (ag 12 aa.row ([nth v1.records bj.toNat]:O aa)),.a 0 153 12 aa.row (lE++([nth v1.records bj.toNat]:O aa)),.i (bj+1)] rfl ⟨ay rfl rfl mb,lC.a rfl rfl rfl rfl jX,aC underlying27 cH eB cW rfl rfl rfl rfl rfl⟩ ?_
        cases H
        exact .t 4 2 bt rfl rfl rfl rfl rfl hS rfl
       ·exact .E 4 rfl (.z (ru 13 H) rfl rfl)
      ·exact .E 1 rfl (.z (ru y4 H) rfl rfl)
    ·refine .E 1 rfl ?_
     obtain ⟨q0,H9,lz⟩:=bK H;clear H;cases lz
     cases bt
     have H:=H9
     exact .z (eF (ca,lE,eW) H) rfl rfl
theorem vu {aD:O Event} {QF:Int} {r:ah} (H:l9 aD QF=some r):aB prog 118 [ag 7 Event.row aD,cI QF] (·=.agg (ah.row r)):=by
 obtain ⟨i115,DV,DW,O2,O3⟩:=F1
 refine aB.aS func118 rfl ntmps118 rfl λS hS=>?_
 unfold l9 at H
 refine .A 16 [.r 0,.d (.agg (ah.row (⟨([]:O aw),([]:O Sub),([]:O Int)⟩:ah))),.r 1] rfl (az.g (az.le (aK F5 DV DW rfl rfl) (dB.d (.agg ⟨.nil 6,.nil 8,.nil 1,trivial⟩)))) (.lp H (λ⟨bk,ch,bz,bA⟩=>[(0,.d (ag 7 Event.row aD)),(1,.d (cI QF)),(4,.ref 0 0),(5,.ref 1 0),(6,.d (cI bk))]) (λ⟨bk,ch,bz,bA⟩=>⟨[.row 115 [.d bT,.d bT,.d bT],.row 115 [.d (ag 6 aw.eQ ch),.d (ag 8 Sub.row bz),.d (ag 1 rI bA)]],[]⟩) (.k5 rfl rfl rfl rfl rfl (.nil)) rfl ?_)
 rintro ⟨bk,ch,bz,bA⟩ q1 H bt
 dsimp only at H
 unfold jK at H
 refine .A 8 [.i (aD.length:Int)] rfl (Nb.n rfl rfl) (.ite H rfl (λH=>?_) (λH=>?_))
 ·obtain ⟨cA,H⟩:=ab H
  refine .A 13 [.d (.ro (Event.row (nth aD bk.toNat)))] rfl (Nb.ix rfl rfl rfl cA) (.ite H rfl (λH=>?_) (λH=>?_))
  ·obtain ⟨cP,H⟩:=ab H
   obtain ⟨y1,dI,H⟩:=af H
   obtain ⟨dD,H⟩:=ab H
   refine .A 16 [.p 6,.d (.ro (Event.row (nth aD bk.toNat))),.d (.agg (ah.row y1)),.i (bk+1)] rfl ⟨ay rfl rfl dD,ax (en 18 rfl) rfl rfl (tG dI),Nb.ix rfl rfl rfl cP,(show _=true by kernel_rfl)⟩ ?_
   cases H
   exact .z bt rfl rfl
  ·obtain ⟨dY,H⟩:=ab H
   refine .A 7 [.i (bk+1)] rfl (ay rfl rfl dY) ?_
   cases H
   exact .z bt rfl rfl
 ·refine .E 6 rfl (.R func118 results118 rfl ?_)
  cases H
  cases bt
  exact .m rfl (.av _)
theorem As {v0:O Event} {v1:Int} {r:eb} (H:mW v0 v1=some r):aB prog 117 [ag 7 Event.row v0,cI v1] (·=.agg (eb.row r)):=by
 obtain ⟨i3,ji,rL,mc,Fp⟩:=u3
 obtain ⟨i134,tH,yM,vi,Hr⟩:=F2
 obtain ⟨i138,oQ,vj,qo,DX⟩:=BZ
 obtain ⟨i219,hi219,hz219,hs219,hb219⟩:=Qm
 refine aB.aS func117 rfl ntmps117 rfl λS hS=>?_
 unfold mW at H
 obtain ⟨y1,dI,H⟩:=af H
 refine .A 23 [.r 0,.d (.agg (ah.row y1)),.r 1,.d (.agg [bT,bT]),.r 2] rfl ⟨az.g (aK Qs hi219 hz219 rfl rfl),ax (en 80 rfl) rfl rfl (vu dI)⟩ (.qS (o:=2) (ci:=1) (e:=138) (sz:=8) rfl rfl (.bw (ι:=O Sub) (λdG=>[(4,.ref 0 0),(5,.ref 1 0),(6,.ref 2 0)]) (λdG=>⟨[.row 219 [.d bT,.d bT],.row 115 [.d (ag 6 aw.eQ y1.au),.d (ag 8 Sub.row y1.aN),.d (ag 1 rI y1.ended)],.row 219 [.d bT,.bX 8 (dG.map Sub.row) 0]],[u6 dG.length]⟩) (λs=>fV y1 s=some r) ?_ ?_))
 ·rintro dG H
  replace H:fV y1 dG=some r:=H
  unfold fV at H
  refine .E 6 rfl (.qS (o:=2) (ci:=0) (e:=134) (sz:=6) rfl rfl (.lp H (λ⟨fw,bM⟩=>[(4,.ref 0 0),(5,.ref 1 0),(6,.ref 2 0),(9,.d (cI fw))]) (λ⟨fw,bM⟩=>⟨[.row 219 [.d bT,.d bT],.row 115 [.d (ag 6 aw.eQ y1.au),.d (ag 8 Sub.row y1.aN),.d (ag 1 rI y1.ended)],.row 219 [.bX 6 (bM.map aw.row) 1,.bX 8 (dG.map Sub.row) 0]],[u6 dG.length,B3 bM.length]⟩) (.k4 rfl rfl rfl rfl (.nil)) rfl ?_))
  rintro ⟨fw,bM⟩ q1 H bt
  dsimp only at H
  unfold ln at H
  refine .A 15 [.i (bM.length:Int),.i (y1.au.length:Int)] rfl ⟨rfl,rfl,rfl,λhg=>DP.n rfl rfl,rfl,rfl,λhg=>DP.n rfl rfl,rfl,rfl⟩ (.ite H rfl (λH=>?_) (λH=>?_))
  ·obtain ⟨y2,gN,H⟩:=af H
   refine .A 16 [.i y2] rfl (ax (en 6 rfl) rfl rfl (nj gN)) (.ite H rfl (λH=>?_) (λH=>?_))
   ·obtain ⟨cA,H⟩:=ab H
    refine .A 6 [.i (fw+1)] rfl (ay rfl rfl cA) ?_
    cases H
    exact .z bt rfl rfl
   ·obtain ⟨cP,H⟩:=ab H
    refine .A 16 [.d (.ro (aw.eQ (nth y1.au y2.toNat))),.r 3] rfl (DP.ix rfl rfl rfl cP) (.bw (ι:=O Int) (λrr=>[(4,.ref 0 0),(5,.ref 1 0),(6,.ref 2 0),(9,.d (cI fw)),(11,.ref 3 0)]) (λrr=>⟨[.row 219 [.d bT,.d bT],.row 115 [.d (ag 6 aw.eQ y1.au),.d (ag 8 Sub.row y1.aN),.d (ag 1 rI y1.ended)],.row 219 [.bX 6 (bM.map aw.row) 1,.bX 8 (dG.map Sub.row) 0],.row 134 [.d (cI (nth y1.au y2.toNat).id),.d (cI (nth y1.au y2.toNat).since),.d (cI (nth y1.au y2.toNat).anchor),.d (cB (nth y1.au y2.toNat).ja),.d (cB (nth y1.au y2.toNat).closed),.d (ag 1 rI rr)]],[u6 dG.length,B3 bM.length]⟩) (λs=>iJ y1 fw bM y2 s=some q1) ?_ ?_)
    ·rintro rr H
     replace H:iJ y1 fw bM y2 rr=some q1:=H
     unfold iJ at H
     obtain ⟨dD,H⟩:=ab H
     obtain ⟨dY,H⟩:=ab H
     refine .A 15 [.d (ag 6 aw.row ([(⟨(nth y1.au y2.toNat).id,(nth y1.au y2.toNat).since,(nth y1.au y2.toNat).anchor,(nth y1.au y2.toNat).ja,(nth y1.au y2.toNat).closed,rr⟩:aw)]:O aw)),.a 1 134 6 aw.row (bM++([(⟨(nth y1.au y2.toNat).id,(nth y1.au y2.toNat).since,(nth y1.au y2.toNat).anchor,(nth y1.au y2.toNat).ja,(nth y1.au y2.toNat).closed,rr⟩:aw)]:O aw)),.i (fw+1)] rfl ⟨ay rfl rfl dY,DP.a rfl rfl rfl rfl dD,aC underlying112 tH vi yM rfl rfl rfl rfl rfl⟩ ?_
     cases H
     exact .t 3 2 bt rfl rfl rfl rfl rfl hS rfl
    ·intro ru Gd
     refine .yp (o:=3) (ci:=5) (e:=3) (sz:=1) rfl rfl (.lp H (λ⟨jk,oO⟩=>[(4,.ref 0 0),(5,.ref 1 0),(6,.ref 2 0),(9,.d (cI fw)),(11,.ref 3 0),(12,.d (cI jk))]) (λ⟨jk,oO⟩=>⟨[.row 219 [.d bT,.d bT],.row 115 [.d (ag 6 aw.eQ y1.au),.d (ag 8 Sub.row y1.aN),.d (ag 1 rI y1.ended)],.row 219 [.bX 6 (bM.map aw.row) 1,.bX 8 (dG.map Sub.row) 0],.row 134 [.d (cI (nth y1.au y2.toNat).id),.d (cI (nth y1.au y2.toNat).since),.d (cI (nth y1.au y2.toNat).anchor),.d (cB (nth y1.au y2.toNat).ja),.d (cB (nth y1.au y2.toNat).closed),.bX 1 (oO.map rI) 2]],[u6 dG.length,B3 bM.length,u5 oO.length]⟩) (.k6 rfl rfl rfl rfl rfl rfl (.nil)) rfl ?_)
     rintro ⟨jk,oO⟩ q2 H Ni
     dsimp only at H
     unfold ll at H
     refine .A 9 [.i (dG.length:Int)] rfl (qX.n rfl rfl) (.ite H rfl (λH=>?_) (λH=>?_))
     ·obtain ⟨fh,H⟩:=ab H
      refine .A 14 [.d (.ro (Sub.row (nth dG jk.toNat)))] rfl (qX.ix rfl rfl rfl fh) (.ite H rfl (λH=>?_) (λH=>?_))
      ·obtain ⟨gM,H⟩:=ab H
       obtain ⟨jX,H⟩:=ab H
       obtain ⟨mb,H⟩:=ab H
       refine .A 21 [.p 9,.d (.ro (Sub.row (nth dG jk.toNat))),.d (ag 1 rI ([(nth dG jk.toNat).id]:O Int)),.a 2 3 1 rI (oO++([(nth dG jk.toNat).id]:O Int)),.i (jk+1)] rfl ⟨ay rfl rfl mb,jq.a rfl rfl rfl rfl jX,aC underlying100 ji mc rL rfl rfl rfl rfl rfl,qX.ix rfl rfl rfl gM,(show _=true by kernel_rfl)⟩ ?_
       cases H
       exact .z Ni rfl rfl
      ·obtain ⟨pM,H⟩:=ab H
       refine .A 7 [.i (jk+1)] rfl (ay rfl rfl pM) ?_
       cases H
       exact .z Ni rfl rfl
     ·refine .E 1 rfl ?_
      obtain ⟨q0,H9,lz⟩:=bK H;clear H;cases lz
      cases Ni
      have H:=H9
      exact .pD 3 5 rfl rfl (.bX _ _ _) (.t 4 2 (Gd oO H) rfl rfl rfl rfl rfl hS rfl)
  ·refine .F 3 rfl (.pD 2 0 rfl rfl (.bX _ _ _) (.pD 2 1 rfl rfl (.bX _ _ _) (.E 3 rfl (.R func117 results117 rfl ?_))))
   cases H
   cases bt
   exact .m rfl (.av _)
 ·intro ly eF
  refine .lp H (λ⟨vd,ma⟩=>[(4,.ref 0 0),(5,.ref 1 0),(6,.ref 2 0),(7,.d (cI vd))]) (λ⟨vd,ma⟩=>⟨[.row 219 [.d bT,.d bT],.row 115 [.d (ag 6 aw.eQ y1.au),.d (ag 8 Sub.row y1.aN),.d (ag 1 rI y1.ended)],.row 219 [.d bT,.bX 8 (ma.map Sub.row) 0]],[u6 ma.length]⟩) (.k4 rfl rfl rfl rfl (.nil)) rfl ?_
  rintro ⟨vd,ma⟩ q1 H bt
  dsimp only at H
  unfold lq at H
  obtain ⟨gO,H⟩:=ab H
  refine .A 19 [.i (ma.length:Int),.i (y1.aN.length:Int),.i (y1.ended.length:Int),.i ((y1.aN.length:Int) - (y1.ended.length:Int))] rfl ⟨rfl,rfl,rfl,λhg=>gZ rfl rfl (gO hg),rfl,rfl,λhg=>jq.n rfl rfl,rfl,rfl,λhg=>qX.n rfl rfl,rfl,rfl,λhg=>qX.n rfl rfl,rfl,rfl⟩ (.ite H rfl (λH=>?_) (λH=>?_))
  ·obtain ⟨y3,mA,H⟩:=af H
   obtain ⟨y4,vf,H⟩:=af H
   refine .A 21 [.i y3,.b y4] rfl ⟨rfl,rfl,λhg=>ax (en 5 rfl) rfl rfl (mB (b6 vf hg)),rfl,rfl,ax (en 7 rfl) rfl rfl (m0 mA)⟩ (.ite H rfl (λH=>?_) (λH=>?_))
   ·obtain ⟨m4,H⟩:=ab H
    obtain ⟨nk,H⟩:=ab H
    obtain ⟨rV,H⟩:=ab H
    refine .A 20 [.p 8,.d (.ro (Sub.row (nth y1.aN y3.toNat))),.d (ag 8 Sub.row ([nth y1.aN y3.toNat]:O Sub)),.a 0 138 8 Sub.row (ma++([nth y1.aN y3.toNat]:O Sub)),.i (vd+1)] rfl ⟨ay rfl rfl rV,qX.a rfl rfl rfl rfl nk,aC underlying113 oQ qo vj rfl rfl rfl rfl rfl,qX.ix rfl rfl rfl m4,(show _=true by kernel_rfl)⟩ ?_
    cases H
    exact .z bt rfl rfl
   ·obtain ⟨vm,H⟩:=ab H
    refine .A 7 [.i (vd+1)] rfl (ay rfl rfl vm) ?_
    cases H
    exact .z bt rfl rfl
  ·refine .E 1 rfl ?_
   obtain ⟨q0,H9,lz⟩:=bK H;clear H;cases lz
   cases bt
   have H:=H9
   exact .z (eF ma H) rfl rfl
theorem At {aD:O Event} {c9:O uA} {Ng:Int} {r:Int×Bool} (H:mX aD c9 Ng=some r):aB prog 103 [ag 7 Event.row aD,cS c9,cI Ng] (·=.dp [cI r.1,cB r.2]):=by
 refine aB.aS func103 rfl ntmps103 rfl λS hS=>?_
 unfold mX at H
 obtain ⟨y1,dI,H⟩:=af H
 refine .A 19 [.d (.agg (eb.row y1)),.r 0] rfl (ax (en 81 rfl) rfl rfl (As dI)) (.lp H (λa9=>[(1,.d (cS c9)),(8,.ref 0 0),(9,.d (cI a9))]) (λa9=>⟨[.row 219 [.d (ag 6 aw.row y1.au),.d (ag 8 Sub.row y1.aN)]],[]⟩) (.k3 rfl rfl rfl (.nil)) rfl ?_)
 rintro a9 q1 H bt
 unfold iK at H
 refine .A 9 [.i (y1.aN.length:Int)] rfl (qX.n rfl rfl) (.ite H rfl (λH=>?_) (λH=>?_))
 ·obtain ⟨cA,H⟩:=ab H
  obtain ⟨y2,gN,H⟩:=af H
  refine .A 14 [.d (.ro (Sub.row (nth y1.aN a9.toNat))),.b y2] rfl ⟨ax (en 9 rfl) rfl rfl (m3 gN),qX.ix rfl rfl rfl cA⟩ (.ite H rfl (λH=>?_) (λH=>?_))
  ·obtain ⟨cP,H⟩:=ab H
   refine .A 11 [.d (.ro (Sub.row (nth y1.aN a9.toNat)))] rfl (qX.ix rfl rfl rfl cP) (.R func103 results103 rfl ?_)
   cases H
   cases bt
   exact .m rfl (.cZ rfl)
  ·obtain ⟨dD,H⟩:=ab H
   refine .A 7 [.i (a9+1)] rfl (ay rfl rfl dD) ?_
   cases H
   exact .z bt rfl rfl
 ·refine .E 6 rfl (.R func103 results103 rfl ?_)
  cases H
  cases bt
  exact .m rfl (.cZ rfl)
theorem Ee {aD:O Event} {KU Ng:Int} {r:Sub×Bool} (H:ql aD KU Ng=some r):aB prog 104 [ag 7 Event.row aD,cI KU,cI Ng] (·=.dp [.agg (Sub.row r.1),cB r.2]):=by
 obtain ⟨i138,oQ,vj,qo,DX⟩:=BZ
 refine aB.aS func104 rfl ntmps104 rfl λS hS=>?_
 unfold ql at H
 obtain ⟨y1,dI,H⟩:=af H
 obtain ⟨y2,gN,H⟩:=af H
 obtain ⟨y3,mA,H⟩:=af H
 refine .A 31 [.r 0,.d (.agg (ah.row y1)),.r 1,.i y2,.b y3] rfl ⟨rfl,λhg=>ax (en 5 rfl) rfl rfl (mB (b6 mA hg)),rfl,rfl,ax (en 7 rfl) rfl rfl (m0 gN),ax (en 80 rfl) rfl rfl (vu dI)⟩ (.ite H rfl (λH=>?_) (λH=>?_))
 ·refine .A 6 [.d (.agg (Sub.row (⟨0,0,0,([]:O uA),([]:O (O uA)),([]:O (O uA)),false,false⟩:Sub)))] rfl (az.g (az.le (aK KQ oQ vj rfl rfl) (dB.d (.agg ⟨.av _,.av _,.av _,.av _,.nil 1,.nil 1,.av _,.av _,trivial⟩)))) (.R func104 results104 rfl ?_)
  cases H
  exact .m rfl (.cZ rfl)
 ·obtain ⟨cA,H⟩:=ab H
  refine .A 11 [.d (.ro (Sub.row (nth y1.aN y2.toNat)))] rfl (qX.ix rfl rfl rfl cA) (.R func104 results104 rfl ?_)
  cases H
  exact .m rfl (.cZ rfl)
theorem Au {v0:O Event} {v1:aa} {v2:Int} {r:aG×Int} (H:iL v0 v1 v2=some r):aB prog 88 [ag 7 Event.row v0,.agg (aa.row v1),cI v2] (·=.dp [.agg (aG.row r.1),cI r.2]):=by
 obtain ⟨i52,qp,rR,Cd,KW⟩:=AS
 refine aB.aS func88 rfl ntmps88 rfl λS hS=>?_
 unfold iL at H
 obtain ⟨y1,dI,H⟩:=af H
 refine .A 18 [.r 0,.r 1,.i y1] rfl (ax (en 69 rfl) rfl rfl (pH dI)) (.ite H rfl (λH=>?_) (λH=>?_))
 ·refine .A 7 [.d (.agg (aG.row kq3))] rfl (az.g (aK yr qp rR rfl rfl)) (.R func88 results88 rfl ?_)
  cases H
  exact .m rfl (.cZ rfl)
 ·refine .E 8 rfl (.ite H rfl (λH=>?_) (λH=>?_))
  ·refine .A 6 [.d (.agg (aG.row kq3))] rfl (az.g (aK yr qp rR rfl rfl)) (.R func88 results88 rfl ?_)
   cases H
   exact .m rfl (.cZ rfl)
  ·refine .E 7 rfl (.di (ι:=O uA) (λGb=>[(0,.d (ag 7 Event.row v0)),(2,.d (cI v2)),(4,.ref 0 0),(6,.ref 1 0),(9,.d (cS Gb))]) (λGb=>⟨[.row 153 [.d (cI v1.source),.d (cI v1.aF),.d (cI v1.kind),.d (cS v1.a),.d (cS v1.b),.d (cI v1.start),.d (cI v1.aJ),.d (cI v1.call),.d (cI v1.part),.d (cB v1.last),.d (cI v1.bh),.d (cB v1.aP)],.row 52 [.d (cI 0),.d (cI 0),.d (cI 0),.d (cI 0),.d (cS ([]:O uA)),.d (cS ([]:O uA)),.d (cI 0),.d (cI 0),.d (cI 0),.d (cB false),.d (cI 0),.d (cI 0)]],[]⟩) (λs=>eY v0 v1 v2 s=some r) ?_ ?_)
   ·rintro Gb H
    replace H:eY v0 v1 v2 Gb=some r:=H
    unfold eY at H
    obtain ⟨y2,gN,H⟩:=af H
    refine .A 23 [.d (.dp [cI y2.1,cB y2.2])] rfl ⟨rfl,rfl,ax (en 82 rfl) rfl rfl (At gN)⟩ (.ite H rfl (λH=>?_) (λH=>?_))
    ·refine .A 6 [.d (.agg (aG.row kq3))] rfl (az.g (aK yr qp rR rfl rfl)) (.R func88 results88 rfl ?_)
     cases H
     exact .m rfl (.cZ rfl)
    ·obtain ⟨y3,mA,H⟩:=af H
     refine .A 26 [.d (.dp [.agg (Sub.row y3.1),cB y3.2]),.r 2] rfl ⟨rfl,rfl,rfl,ax (en 83 rfl) rfl rfl (Ee mA)⟩ (.ite H rfl (λH=>?_) (λH=>?_))
     ·refine .A 6 [.d (.agg (aG.row kq3))] rfl (az.g (aK yr qp rR rfl rfl)) (.R func88 results88 rfl ?_)
      cases H
      exact .m rfl (.cZ rfl)
     ·refine .A 29 [.d (.agg (aG.row (⟨v2,v1.kind,y3.1.aH,y2.1,v1.a,v1.b,v1.start,v1.aJ,v1.bh,v1.aP,v1.source,v1.aF⟩:aG)))] rfl (az.g (aK yr qp rR rfl (by kernel_rfl))) (.R func88 results88 rfl ?_)
      cases H
      exact .m rfl (.cZ rfl)
   ·intro ly
    refine .E 5 rfl (.ite H rfl (λH=>?_) (λH=>?_))
    ·exact .E 5 rfl (.z (ly v1.b H) rfl rfl)
    ·exact .E 1 rfl (.z (ly v1.a H) rfl rfl)
theorem Av {aD:O Event} {ij:ao} {dW:O aa} {r:(O Range)×(O aa)×(O Head)×(O aG)×(O aa)×(O aj)} (H:mY aD ij dW=some r):eg prog 65 [.d (ag 7 Event.row aD),.d (.agg (ao.row ij)),.d (ag 12 aa.row dW)] ⟨[],[]⟩ (QE (.agg [.d (ag 3 Range.row r.1),.d (ag 12 aa.row r.2.1),.d (ag 4 Head.row r.2.2.1),.d (ag 12 aG.row r.2.2.2.1),.d (ag 12 aa.row r.2.2.2.2.1),.bX 4 (r.2.2.2.2.2.map aj.row) 0]) ⟨[],[jb r.2.2.2.2.2.length]⟩):=by
 obtain ⟨i52,qp,rR,Cd,KW⟩:=AS
 obtain ⟨i153,cH,cW,eB,m5⟩:=jn
 obtain ⟨i178,nt,pq,rN,A7⟩:=ue
 refine eg.PZ ?_
 refine eg.enter func65 rfl ntmps65 rfl λS hS=>?_
 unfold mY at H
 obtain ⟨cA,H⟩:=ab H
 obtain ⟨cP,H⟩:=ab H
 refine .A 26 [.r 0,.r 1,.n (.bX 12 (([]:O aG).map aG.row) 0) (B4 ([]:O aG).length),.a 0 52 12 aG.row (([]:O aG)++ij.usages),.n (.bX 12 (([]:O aa).map aa.row) 1) (dh ([]:O aa).length),.a 1 153 12 aa.row (([]:O aa)++ij.aI)] rfl ⟨lC.a rfl rfl rfl rfl cP,.e (lL underlying27 cH eB) rfl,QC.a rfl rfl rfl rfl cA,.e (lL underlying31 qp Cd) rfl⟩ (.bw (ι:=O aG×O aa) (λ⟨eZ,iM⟩=>[(4,.ref 0 0),(6,.ref 1 0),(7,.bX 12 (eZ.map aG.row) 0),(8,.bX 12 (iM.map aa.row) 1)]) (λ⟨eZ,iM⟩=>⟨[.row 34 [.d (ag 3 Range.row ij.ai.seen),.d (ag 12 aa.row ij.ai.open_),.d (ag 4 Head.row ij.ai.aX),.d (ag 12 aG.row ij.usages),.d (ag 12 aa.row ij.aI),.d (ag 4 aj.row ij.bo)],.row 34 [.d bT,.d bT,.d bT,.d bT,.d bT,.d bT]],[B4 eZ.length,dh iM.length]⟩) (λs=>iN ij s.1 s.2=some r) ?_ ?_)
 ·rintro ⟨eZ,iM⟩ H
  replace H:iN ij eZ iM=some r:=H
  unfold iN at H
  obtain ⟨dD,H⟩:=ab H
  refine .B 23 [.n (.bX 4 (([]:O aj).map aj.row) 2) (jb ([]:O aj).length),.a 2 178 4 aj.row (([]:O aj)++ij.bo)] rfl ⟨O0.a rfl rfl rfl rfl dD,.e (lL underlying32 nt rN) rfl⟩ (.pD 0 3 rfl rfl (.bX _ _ _) (.pD 0 4 rfl rfl (.bX _ _ _) (.A 3 [.f 3 (.agg [.d (ag 3 Range.row ij.ai.seen),.d (ag 12 aa.row ij.ai.open_),.d (ag 4 Head.row ij.ai.aX),.d (ag 12 aG.row eZ),.d (ag 12 aa.row iM),.bX 4 ((([]:O aj)++ij.bo).map aj.row) 2])] rfl (az.g (DK F4 Hh rfl rfl (Nat.le_of_ble_eq_true rfl) rfl)) (.Sz [.cell 6 34] [.agg [.d (ag 3 Range.row ij.ai.seen),.d (ag 12 aa.row ij.ai.open_),.d (ag 4 Head.row ij.ai.aX),.d (ag 12 aG.row eZ),.d (ag 12 aa.row iM),.bX 4 ((([]:O aj)++ij.bo).map aj.row) 2]] func65 results65 ⟨⟨⟨_,_,rfl⟩,DK F4 Hh rfl rfl (Nat.le_of_ble_eq_true rfl) rfl⟩,trivial⟩ ?_))))
  cases H
  exact ⟨[],[2],rfl,rfl,rfl,rfl,rfl,rfl,rfl,rfl,.Vk ⟨.av _,.av _,.av _,.av _,.av _,.av _,trivial⟩⟩
 ·intro ly eF
  refine .lp H (λ⟨b7,eA,a9⟩=>[(0,.d (ag 7 Event.row aD)),(2,.d (ag 12 aa.row dW)),(4,.ref 0 0),(6,.ref 1 0),(7,.bX 12 (b7.map aG.row) 0),(8,.bX 12 (eA.map aa.row) 1),(9,.d (cI a9))]) (λ⟨b7,eA,a9⟩=>⟨[.row 34 [.d (ag 3 Range.row ij.ai.seen),.d (ag 12 aa.row ij.ai.open_),.d (ag 4 Head.row ij.ai.aX),.d (ag 12 aG.row ij.usages),.d (ag 12 aa.row ij.aI),.d (ag 4 aj.row ij.bo)],.row 34 [.d bT,.d bT,.d bT,.d bT,.d bT,.d bT]],[B4 b7.length,dh eA.length]⟩) (.k7 rfl rfl rfl rfl rfl rfl rfl (.nil)) rfl ?_
  rintro ⟨b7,eA,a9⟩ q1 H bt
  dsimp only at H
  unfold iO at H
  refine .A 8 [.i (dW.length:Int)] rfl (lC.n rfl rfl) (.ite H rfl (λH=>?_) (λH=>?_))
  ·obtain ⟨dY,H⟩:=ab H
   obtain ⟨fh,H⟩:=ab H
   obtain ⟨y1,dI,H⟩:=af H
   refine .A 26 [.d (.ro (aa.row (nth dW a9.toNat))),.i (b7.length:Int),.i ((b7.length:Int)+1),.d (.dp [.agg (aG.row y1.1),cI y1.2]),.r 2] rfl ⟨ax (en 84 rfl) rfl rfl (Au dI),ay rfl rfl fh,QC.n rfl rfl,lC.ix rfl rfl rfl dY⟩ (.ite H rfl (λH=>?_) (λH=>?_))
   ·obtain ⟨gM,H⟩:=ab H
    obtain ⟨jX,H⟩:=ab H
    refine .A 13 [.d (ag 12 aG.row ([y1.1]:O aG)),.a 0 52 12 aG.row (b7++([y1.1]:O aG)),.i (a9+1)] rfl ⟨ay rfl rfl jX,QC.a rfl rfl rfl rfl gM,aC underlying31 qp Cd rR rfl rfl rfl rfl rfl⟩ ?_
    cases H
    exact .t 2 2 bt rfl rfl rfl rfl rfl hS rfl
   ·obtain ⟨mb,H⟩:=ab H
    obtain ⟨pM,H⟩:=ab H
    obtain ⟨gO,H⟩:=ab H
    refine .A 16 [.d (.ro (aa.row (nth dW a9.toNat))),.d (ag 12 aa.row ([nth dW a9.toNat]:O aa)),.a 1 153 12 aa.row (eA++([nth dW a9.toNat]:O aa)),.i (a9+1)] rfl ⟨ay rfl rfl gO,lC.a rfl rfl rfl rfl pM,aC underlying27 cH eB cW rfl rfl rfl rfl rfl,lC.ix rfl rfl rfl mb⟩ ?_
    cases H
    exact .t 2 2 bt rfl rfl rfl rfl rfl hS rfl
  ·refine .E 1 rfl ?_
   obtain ⟨q0,H9,lz⟩:=bK H;clear H;cases lz
   cases bt
   have H:=H9
   exact .z (eF (b7,eA) H) rfl rfl
theorem Cm {aD:O Event} {ij:ao} {O1:Batch} {KV:bJ} {r:ao×Int} (H:oP aD ij O1 KV=some r):aB prog 48 [ag 7 Event.row aD,.agg (ao.row ij),.agg (Batch.row O1),.agg (bJ.row KV)] (·=.dp [.agg (ao.row r.1),cI r.2]):=by
 obtain ⟨i34,DZ,D1,QL,QM⟩:=Hi
 refine aB.aS func48 rfl ntmps48 rfl λS hS=>?_
 unfold oP at H
 obtain ⟨y1,dI,H⟩:=af H
 refine .A 32 [.r 0,.r 1,.r 2,.r 3,.d (.dp [.agg (bE.row y1.1),ag 12 aa.row y1.2.1,ag 4 aj.row y1.2.2.1,cI y1.2.2.2]),.r 4] rfl (ax (en 85 rfl) rfl rfl (za dI)) (.ite H rfl (λH=>?_) (λH=>?_))
 ·refine .A 7 [.d (.agg (ao.row kq6))] rfl (az.g (az.le (aK DN DZ D1 rfl rfl) (dB.d (.agg ⟨.nil 3,.nil 12,.nil 4,.nil 12,.nil 12,.nil 4,trivial⟩)))) (.R func48 results48 rfl ?_)
  cases H
  exact .m rfl (.cZ rfl)
 ·obtain ⟨y2,gN,H⟩:=af H
  refine .F 6 rfl (.ON (en 86 rfl) rfl [] [] (x:=.agg [.d (ag 3 Range.row y2.1),.d (ag 12 aa.row y2.2.1),.d (ag 4 Head.row y2.2.2.1),.d (ag 12 aG.row y2.2.2.2.1),.d (ag 12 aa.row y2.2.2.2.2.1),.bX 4 (y2.2.2.2.2.2.map aj.row) 0]) (st':=⟨[.row 34 [.d (ag 3 Range.row ij.ai.seen),.d (ag 12 aa.row ij.ai.open_),.d (ag 4 Head.row ij.ai.aX),.d (ag 12 aG.row ij.usages),.d (ag 12 aa.row ij.aI),.d (ag 4 aj.row ij.bo)],.row 121 [.d (cI O1.source),.d (cI O1.number),.d (cI O1.format),.d (ag 12 aa.row O1.records)],.row 37 [.d (cI KV.kt),.d (cI KV.ra)],.row 34 [.d bT,.d bT,.d bT,.d bT,.d bT,.d bT],.row 30 [.d (ag 3 Range.row y1.1.seen),.d (ag 12 aa.row y1.1.open_),.d (ag 4 Head.row y1.1.aX)]],[jb y2.2.2.2.2.2.length]⟩) rfl (Av gN) ⟨.av _,.av _,.av _,trivial⟩ rfl rfl rfl rfl rfl rfl ?_)
  obtain ⟨cA,H⟩:=ab H
  refine .B 20 [.r 5,.a 0 178 4 aj.row (y2.2.2.2.2.2++y1.2.2.1)] rfl (O0.a rfl rfl rfl rfl cA) (.pD 5 5 rfl rfl (.bX _ _ _) (.E 4 rfl (.R func48 results48 rfl ?_)))
  cases H
  exact .m rfl (.cZ rfl)
theorem Ef {aD:O Event} {ij:ao} {B8:O uA} {KV:bJ} {r:ao×Int} (H:qm aD ij B8 KV=some r):aB prog 29 [ag 7 Event.row aD,.agg (ao.row ij),ag 1 cq B8,.agg (bJ.row KV)] (·=.dp [.agg (ao.row r.1),cI r.2]):=by
 refine aB.aS func29 rfl ntmps29 rfl λS hS=>?_
 unfold qm at H
 obtain ⟨y1,dI,H⟩:=af H
 refine .A 26 [.r 0,.r 1,.r 2,.d (.dp [.agg (Batch.row y1.1),ag 4 aj.row y1.2.1,cI y1.2.2]),.r 3] rfl (ax (en 87 rfl) rfl rfl (Ch dI)) (.ite H rfl (λH=>?_) (λH=>?_))
 ·refine .E 7 rfl (.R func29 results29 rfl ?_)
  cases H
  exact .m rfl (.cZ rfl)
 ·obtain ⟨y2,gN,H⟩:=af H
  refine .A 21 [.d (.dp [.agg (ao.row y2.1),cI y2.2]),.r 4] rfl (ax (en 88 rfl) rfl rfl (Cm gN)) (.ite H rfl (λH=>?_) (λH=>?_))
  ·refine .E 7 rfl (.R func29 results29 rfl ?_)
   cases H
   exact .m rfl (.cZ rfl)
  ·refine .E 7 rfl (.R func29 results29 rfl ?_)
   cases H
   exact .m rfl (.cZ rfl)
theorem Eg {aD:O Event} {DU:bJ} {ia:O (O uA)} {r:ao} (H:qn aD DU ia=some r):aB prog 11 [ag 7 Event.row aD,.agg (bJ.row DU),ag 1 (Kf 1 cq) ia] (·=.agg (ao.row r)):=by
 obtain ⟨i34,DZ,D1,QL,QM⟩:=Hi
 obtain ⟨i84,S9,Vs,Ta,Vt⟩:=KJ
 refine aB.aS func11 rfl ntmps11 rfl λS hS=>?_
 unfold qn at H
 refine .A 17 [.r 0,.r 1,.d (.agg (ao.row kq6)),.r 2] rfl (az.g (az.le (aK DN DZ D1 rfl rfl) (dB.d (.agg ⟨.nil 3,.nil 12,.nil 4,.nil 12,.nil 12,.nil 4,trivial⟩)))) (.lp H (λ⟨bO,bM,sD,sE,sF,sG,sH⟩=>[(0,.d (ag 7 Event.row aD)),(2,.d (ag 1 (Kf 1 cq) ia)),(4,.ref 0 0),(6,.ref 1 0),(7,.ref 2 0),(8,.d (cI bO))]) (λ⟨bO,bM,sD,sE,sF,sG,sH⟩=>⟨[.row 37 [.d (cI DU.kt),.d (cI DU.ra)],.row 34 [.d bT,.d bT,.d bT,.d bT,.d bT,.d bT],.row 34 [.d (ag 3 Range.row bM),.d (ag 12 aa.row sD),.d (ag 4 Head.row sE),.d (ag 12 aG.row sF),.d (ag 12 aa.row sG),.d (ag 4 aj.row sH)]],[]⟩) (.k6 rfl rfl rfl rfl rfl rfl (.nil)) rfl ?_)
 rintro ⟨bO,bM,sD,sE,sF,sG,sH⟩ q1 H bt
 dsimp only at H
 unfold nL at H
 refine .A 8 [.i (ia.length:Int)] rfl (Ub.n rfl rfl) (.ite H rfl (λH=>?_) (λH=>?_))
 ·refine .E 3 rfl ?_
  obtain ⟨cA,H⟩:=ab H
  obtain ⟨y1,dI,H⟩:=af H
  refine let z0:fm:=.row 34 [.d bT,.d bT,.d bT,.d bT,.d bT,.d bT];let z1:fm:=.row 37 [.d (cI DU.kt),.d (cI DU.ra)];.xo 12 11 [⟨[z1,z0,.row 34 [.d (ag 3 Range.row bM),.d (ag 12 aa.row sD),.d (ag 4 Head.row sE),.d (ag 12 aG.row sF),.d (ag 12 aa.row sG),.d (ag 4 aj.row sH)]],[]⟩,⟨[z1,z0,.row 34 [.d (ag 3 Range.row y1.1.ai.seen),.d (ag 12 aa.row y1.1.ai.open_),.d (ag 4 Head.row y1.1.ai.aX),.d (ag 12 aG.row y1.1.usages),.d (ag 12 aa.row y1.1.aI),.d (ag 4 aj.row y1.1.bo)]],[]⟩] wa (by kernel_rfl) (by decide) rfl ?_
  show nd _ _ _ _ _ _ _ _ _ _ (_::_) _ _
  refine .G (x:=.d (ag 7 Event.row aD)) 0 0 ⟨az.g (cg rfl),trivial⟩ rfl rfl (.G (x:=.d (.agg (ao.row (⟨(⟨bM,sD,sE⟩:bE),sF,sG,sH⟩:ao)))) 0 0 ⟨az.g (pR F4 Hh rfl rfl (Nat.le_of_ble_eq_true rfl) rfl),trivial⟩ rfl rfl (.G (x:=.d (ag 1 (Kf 1 cq) ia)) 0 0 ⟨az.g (cg rfl),trivial⟩ rfl rfl (.G (x:=.d (cI bO)) 0 0 ⟨az.g (cg rfl),trivial⟩ rfl rfl (.G (x:=.d (.ro ((Kf 1 cq) (nth ia bO.toNat)))) 0 0 ⟨az.g (dF (row:=(Kf 1 cq)) (l:=ia) (i:=bO) underlying23 S9 Ta rfl rfl rfl cA),trivial⟩ rfl rfl (.G (x:=.d (ag 1 cq (nth ia bO.toNat))) 0 0 ⟨az.g (dN Qo rfl),trivial⟩ rfl rfl (.G (x:=.d (.agg (bJ.row DU))) 0 0 ⟨az.g (pR Qn SO rfl rfl (Nat.le_of_ble_eq_true rfl) rfl),trivial⟩ rfl rfl (.G (x:=.d (.dp [.agg (ao.row y1.1),cI y1.2])) 0 0 ⟨(ax (en 89 rfl) rfl rfl (Ef dI)),trivial⟩ rfl rfl (.G (x:=.d (.dp [.agg (ao.row y1.1),cI y1.2])) 0 0 ⟨az.g (cg rfl),trivial⟩ rfl rfl (.G (x:=.d (.agg (ao.row y1.1))) 0 0 ⟨az.g (iY rfl rfl),trivial⟩ rfl rfl (.G (x:=.d (cI y1.2)) 0 1 ⟨az.g (iY rfl rfl),az.g (iY rfl rfl),trivial⟩ rfl rfl (.u 0 (qJ rfl rfl rfl rfl (Nat.le_of_ble_eq_true rfl) Hh) rfl rfl rfl rfl (.nil rfl ?_))))))))))))
  show cn _ _ _ _ _ _ [] _ _ _
  obtain ⟨cP,H⟩:=ab H
  refine .A 7 [.i (bO+1)] rfl (ay rfl rfl cP) ?_
  cases H
  exact .z bt rfl rfl
 ·refine .E 6 rfl (.R func11 results11 rfl ?_)
  cases H
  cases bt
  exact .m rfl (.av _)
theorem Aw {bd:O Range} {r:Int} (H:mZ bd=some r):aB prog 30 [ag 3 Range.row bd] (·=cI r):=by
 refine aB.aS func30 rfl ntmps30 rfl λS hS=>?_
 unfold mZ at H
 refine .E 14 rfl (.lp H (λ⟨bU,aq⟩=>[(0,.d (ag 3 Range.row bd)),(3,.d (cI bU)),(4,.d (cI aq))]) (λ⟨bU,aq⟩=>⟨[],[]⟩) (.k3 rfl rfl rfl (.nil)) rfl ?_)
 rintro ⟨bU,aq⟩ q1 H bt
 dsimp only at H
 unfold iP at H
 refine .A 8 [.i (bd.length:Int)] rfl (Hn.n rfl rfl) (.ite H rfl (λH=>?_) (λH=>?_))
 ·obtain ⟨cA,H⟩:=ab H
  obtain ⟨cP,H⟩:=ab H
  obtain ⟨dD,H⟩:=ab H
  obtain ⟨dY,H⟩:=ab H
  obtain ⟨fh,H⟩:=ab H
  obtain ⟨gM,H⟩:=ab H
  refine .A 27 [.p 15,.d (.ro (Range.row (nth bd aq.toNat))),.i (bU+((nth bd aq.toNat).qZ)),.d (.ro (Range.row (nth bd aq.toNat))),.i ((bU+((nth bd aq.toNat).qZ)) - (nth bd aq.toNat).from_),.i (((bU+((nth bd aq.toNat).qZ)) - (nth bd aq.toNat).from_)+1),.i (aq+1)] rfl ⟨ay rfl rfl gM,ay rfl rfl fh,gZ rfl rfl dY,Hn.ix rfl rfl rfl dD,ay rfl rfl cP,Hn.ix rfl rfl rfl cA,(show _=true by kernel_rfl)⟩ ?_
  cases H
  exact .z bt rfl rfl
 ·refine .E 6 rfl (.R func30 results30 rfl ?_)
  cases H
  cases bt
  exact .m rfl (.av _)
theorem rO {b8:ao} {r:cx} (H:gW b8=some r):aB prog 12 [.agg (ao.row b8)] (·=.agg (cx.row r)):=by
 obtain ⟨i39,QJ,QK,Vv,Vw⟩:=OX
 refine aB.aS func12 rfl ntmps12 rfl λS hS=>?_
 unfold gW at H
 refine .A 29 [.r 0,.r 1,.i (b8.usages.length:Int),.i (b8.bo.length:Int),.i (b8.aI.length:Int),.i (b8.ai.open_.length:Int),.d (.agg (cx.row (⟨0,(b8.usages.length:Int),0,(b8.bo.length:Int),(b8.aI.length:Int),(b8.ai.open_.length:Int)⟩:cx))),.r 2] rfl ⟨az.g (aK OZ QJ QK rfl rfl),lC.n rfl rfl,lC.n rfl rfl,O0.n rfl rfl,QC.n rfl rfl⟩ (.bw (ι:=Int) (λbW=>[(1,.ref 0 0),(2,.ref 1 0),(3,.ref 2 0)]) (λbW=>⟨[.row 34 [.d (ag 3 Range.row b8.ai.seen),.d (ag 12 aa.row b8.ai.open_),.d (ag 4 Head.row b8.ai.aX),.d (ag 12 aG.row b8.usages),.d (ag 12 aa.row b8.aI),.d (ag 4 aj.row b8.bo)],.row 39 [.d (cI 0),.d (cI 0),.d (cI 0),.d (cI 0),.d (cI 0),.d (cI 0)],.row 39 [.d (cI bW),.d (cI (b8.usages.length:Int)),.d (cI 0),.d (cI (b8.bo.length:Int)),.d (cI (b8.aI.length:Int)),.d (cI (b8.ai.open_.length:Int))]],[]⟩) (λs=>fW b8 s=some r) ?_ ?_)
 ·rintro bW H
  replace H:fW b8 bW=some r:=H
  unfold fW at H
  obtain ⟨y1,dI,H⟩:=af H
  obtain ⟨cA,H⟩:=ab H
  obtain ⟨cP,H⟩:=ab H
  obtain ⟨dD,H⟩:=ab H
  refine let z0:=((y1-(b8.usages.length:Int)) - (b8.aI.length:Int));.A 24 [.p 14,.i y1,.i (y1-(b8.usages.length:Int)),.i z0,.i (z0 - (b8.ai.open_.length:Int))] rfl ⟨gZ rfl rfl dD,gZ rfl rfl cP,gZ rfl rfl cA,ax (en 90 rfl) rfl rfl (Aw dI),(show _=true by kernel_rfl)⟩ ?_
  refine .R func12 results12 rfl ?_
  cases H
  exact .m rfl (.av _)
 ·intro ly eF
  refine .lp H (λ⟨aq,bM⟩=>[(1,.ref 0 0),(2,.ref 1 0),(3,.ref 2 0),(4,.d (cI aq))]) (λ⟨aq,bM⟩=>⟨[.row 34 [.d (ag 3 Range.row b8.ai.seen),.d (ag 12 aa.row b8.ai.open_),.d (ag 4 Head.row b8.ai.aX),.d (ag 12 aG.row b8.usages),.d (ag 12 aa.row b8.aI),.d (ag 4 aj.row b8.bo)],.row 39 [.d (cI 0),.d (cI 0),.d (cI 0),.d (cI 0),.d (cI 0),.d (cI 0)],.row 39 [.d (cI bM),.d (cI (b8.usages.length:Int)),.d (cI 0),.d (cI (b8.bo.length:Int)),.d (cI (b8.aI.length:Int)),.d (cI (b8.ai.open_.length:Int))]],[]⟩) (.k4 rfl rfl rfl rfl (.nil)) rfl ?_
  rintro ⟨aq,bM⟩ q1 H bt
  dsimp only at H
  unfold fX at H
  refine .A 10 [.i (b8.ai.aX.length:Int)] rfl (Nc.n rfl rfl) (.ite H rfl (λH=>?_) (λH=>?_))
  ·obtain ⟨dY,H⟩:=ab H
   obtain ⟨fh,H⟩:=ab H
   obtain ⟨gM,H⟩:=ab H
   refine .A 24 [.p 11,.d (.ro (Head.row (nth b8.ai.aX aq.toNat))),.i (bM+((nth b8.ai.aX aq.toNat).count)),.i (aq+1)] rfl ⟨ay rfl rfl gM,ay rfl rfl fh,Nc.ix rfl rfl rfl dY,(show _=true by kernel_rfl)⟩ ?_
   cases H
   exact .z bt rfl rfl
  ·refine .E 1 rfl ?_
   obtain ⟨q0,H9,lz⟩:=bK H;clear H;cases lz
   cases bt
   have H:=H9
   exact .z (eF bM H) rfl rfl
theorem tL {b8 r:ao} (H:kg b8=some r):aB prog 15 [.agg (ao.row b8)] (·=.agg (ao.row r)):=by
 obtain ⟨i30,K2,K3,Vz,VA⟩:=OW
 obtain ⟨i34,DZ,D1,QL,QM⟩:=Hi
 obtain ⟨i52,qp,rR,Cd,KW⟩:=AS
 obtain ⟨i90,xa,Aj,IP,QN⟩:=Hj
 obtain ⟨i126,tK,wQ,vr,Ht⟩:=BY
 obtain ⟨i153,cH,cW,eB,m5⟩:=jn
 obtain ⟨i178,nt,pq,rN,A7⟩:=ue
 refine aB.aS func15 rfl ntmps15 rfl λS hS=>?_
 unfold kg at H
 obtain ⟨cA,H⟩:=ab H
 obtain ⟨cP,H⟩:=ab H
 obtain ⟨dD,H⟩:=ab H
 obtain ⟨dY,H⟩:=ab H
 obtain ⟨fh,H⟩:=ab H
 obtain ⟨gM,H⟩:=ab H
 refine .A 39 [.r 0,.r 1,.p 29,.d (.e0 3),.d (ag 3 Range.row b8.ai.seen),.d (.e0 12),.d (ag 12 aa.row b8.ai.open_),.d (.e0 4),.d (ag 4 Head.row b8.ai.aX),.d (.agg (bE.row b8.ai)),.d (.e0 12),.d (ag 12 aG.row b8.usages),.d (.e0 12),.d (ag 12 aa.row b8.aI),.d (.e0 4),.d (ag 4 aj.row b8.bo),.d (.agg (ao.row b8))] rfl ⟨az.g (aK DN DZ D1 rfl rfl),eO (l':=b8.bo) (row:=aj.row) underlying32 nt pq rN rfl (by rw[A7];decide) rfl (.inl rfl) rfl rfl gM,(rN▸bp underlying32 nt),eO (l':=b8.aI) (row:=aa.row) underlying27 cH cW eB rfl (by rw[m5];decide) rfl (.inl rfl) rfl rfl fh,(eB▸bp underlying27 cH),eO (l':=b8.usages) (row:=aG.row) underlying31 qp rR Cd rfl (by rw[KW];decide) rfl (.inl rfl) rfl rfl dY,(Cd▸bp underlying31 qp),az.g (aK Hm K2 K3 rfl rfl),eO (l':=b8.ai.aX) (row:=Head.row) underlying28 xa Aj IP rfl (by rw[QN];decide) rfl (.inl rfl) rfl rfl dD,(IP▸bp underlying28 xa),eO (l':=b8.ai.open_) (row:=aa.row) underlying27 cH cW eB rfl (by rw[m5];decide) rfl (.inl rfl) rfl rfl cP,(eB▸bp underlying27 cH),eO (l':=b8.ai.seen) (row:=Range.row) underlying26 tK wQ vr rfl (by rw[Ht];decide) rfl (.inl rfl) rfl rfl cA,(vr▸bp underlying26 tK),(show _=true by kernel_rfl)⟩ ?_
 refine .R func15 results15 rfl ?_
 cases H
 exact .m rfl (.av _)
theorem zb {b8:ao} {j8:Int} {r:(O aT)} (H:lu b8 j8=some r):aB prog 16 [.agg (ao.row b8),cI j8] (·=ag 4 aT.row r):=by
 obtain ⟨i60,rv,rT,w7,Nh⟩:=AT
 refine aB.aS func16 rfl ntmps16 rfl λS hS=>?_
 unfold lu at H
 obtain ⟨y1,dI,H⟩:=af H
 obtain ⟨cA,H⟩:=ab H
 obtain ⟨cP,H⟩:=ab H
 obtain ⟨dD,H⟩:=ab H
 obtain ⟨dY,H⟩:=ab H
 refine .A 35 [.r 0,.d (.agg (cx.row y1)),.r 1,.i (y1.accepted+y1.merged),.i ((y1.accepted+y1.merged)+y1.rejected),.i (((y1.accepted+y1.merged)+y1.rejected)+y1.aV),.i ((((y1.accepted+y1.merged)+y1.rejected)+y1.aV)+y1.open_),.n (.bX 4 (([]:O aT).map aT.row) 0) (sn ([]:O aT).length)] rfl ⟨.e (lL underlying42 rv w7) rfl,ay rfl rfl dY,ay rfl rfl dD,ay rfl rfl cP,ay rfl rfl cA,ax (en 91 rfl) rfl rfl (rO dI)⟩ (.di (ι:=O aT) (λfb=>[(5,.ref 1 0),(6,.d (cI ((((y1.accepted+y1.merged)+y1.rejected)+y1.aV)+y1.open_))),(7,.bX 4 (fb.map aT.row) 0)]) (λfb=>⟨[.row 34 [.d (ag 3 Range.row b8.ai.seen),.d (ag 12 aa.row b8.ai.open_),.d (ag 4 Head.row b8.ai.aX),.d (ag 12 aG.row b8.usages),.d (ag 12 aa.row b8.aI),.d (ag 4 aj.row b8.bo)],.row 39 [.d (cI y1.read),.d (cI y1.accepted),.d (cI y1.merged),.d (cI y1.rejected),.d (cI y1.aV),.d (cI y1.open_)]],[sn fb.length]⟩) (λs=>eu y1 s=some r) ?_ ?_)
 ·rintro fb H
  replace H:eu y1 fb=some r:=H
  unfold eu at H
  refine .E 8 rfl (.ite H rfl (λH=>?_) (λH=>?_))
  ·obtain ⟨fh,H⟩:=ab H
   refine .A 15 [.d (.agg (aT.row (⟨1,2,y1.read,(((y1.accepted+y1.merged)+y1.rejected)+y1.aV)+y1.open_⟩:aT))),.d (ag 4 aT.row ([(⟨1,2,y1.read,(((y1.accepted+y1.merged)+y1.rejected)+y1.aV)+y1.open_⟩:aT)]:O aT)),.a 0 60 4 aT.row (fb++([(⟨1,2,y1.read,(((y1.accepted+y1.merged)+y1.rejected)+y1.aV)+y1.open_⟩:aT)]:O aT))] rfl ⟨Fo.a rfl rfl rfl rfl fh,aC underlying42 rv w7 rT rfl rfl rfl rfl rfl,az.g (aK yt rv rT rfl rfl)⟩ (.R func16 results16 rfl ?_)
   cases H
   exact .m rfl (.bX _ _ _)
  ·refine .E 6 rfl (.R func16 results16 rfl ?_)
   cases H
   exact .m rfl (.bX _ _ _)
 ·intro ly
  refine .E 7 rfl (.ite H rfl (λH=>?_) (λH=>?_))
  ·obtain ⟨gM,H⟩:=ab H
   exact .A 10 [.d (.agg (aT.row (⟨1,1,j8,y1.read⟩:aT))),.d (ag 4 aT.row ([(⟨1,1,j8,y1.read⟩:aT)]:O aT)),.a 0 60 4 aT.row (([]:O aT)++([(⟨1,1,j8,y1.read⟩:aT)]:O aT))] rfl ⟨Fo.a rfl rfl rfl rfl gM,aC underlying42 rv w7 rT rfl rfl rfl rfl rfl,az.g (aK yt rv rT rfl rfl)⟩ (.z (ly (([]:O aT)++([(⟨1,1,j8,y1.read⟩:aT)]:O aT)) H) rfl rfl)
  ·exact .E 1 rfl (.z (ly ([]:O aT) H) rfl rfl)
theorem sK {aD:O Event} {ed:O (O uA)} {yI:Int} {r:Bool} (H:gz aD ed yI=some r):aB prog 3 [ag 7 Event.row aD,ag 1 (Kf 1 cq) ed,cI yI] (·=cB r):=by
 obtain ⟨i37,VB,VD,Xy,Xz⟩:=SP
 refine aB.aS func3 rfl ntmps3 rfl λS hS=>?_
 unfold gz at H
 obtain ⟨y1,dI,H⟩:=af H
 refine .A 12 [.b y1] rfl (ax (en 92 rfl) rfl rfl (Cc dI)) (.ite H rfl (λH=>?_) (λH=>?_))
 ·obtain ⟨y2,gN,H⟩:=af H
  refine .A 5 [.b y2] rfl (ax (en 93 rfl) rfl rfl (tI gN)) (.R func3 results3 rfl ?_)
  cases H
  exact .m rfl (.av _)
 ·obtain ⟨y3,mA,H⟩:=af H
  obtain ⟨y4,vf,H⟩:=af H
  obtain ⟨y5,Ad,H⟩:=af H
  obtain ⟨y6,Gc,H⟩:=af H
  obtain ⟨y7,Nj,H⟩:=af H
  obtain ⟨y8,QO,H⟩:=af H
  obtain ⟨y9,Tg,H⟩:=af H
  obtain ⟨Nf,QQ,H⟩:=af H
  obtain ⟨Vq,VE,H⟩:=af H
  refine .A 42 [.d (.agg (bJ.row (⟨0,1073741824⟩:bJ))),.d (.agg (ao.row y3)),.r 0,.d (.agg (cx.row y4)),.r 1,.p 21,.d (.agg (ao.row y5)),.d (ag 4 aT.row y6),.d (ag 4 aT.row y7),.b y8,.d (.agg (ao.row y9)),.d (ag 4 aT.row Nf),.i (Nf.length:Int),.b Vq] rfl ⟨rfl,λhg=>ax (en 93 rfl) rfl rfl (tI (b6 VE hg)),rfl,rfl,λhg=>Fo.n rfl rfl,rfl,λhg=>ax (en 27 rfl) rfl rfl (ib (b6 QQ hg)),rfl,rfl,rfl,λhg=>ax (en 94 rfl) rfl rfl (tL (b6 Tg hg)),rfl,ax (en 29 rfl) rfl rfl (vl QO),ax (en 95 rfl) rfl rfl (zb Nj),ax (en 27 rfl) rfl rfl (ib Gc),ax (en 94 rfl) rfl rfl (tL Ad),by kernel_rfl,ax (en 91 rfl) rfl rfl (rO vf),ax (en 96 rfl) rfl rfl (Eg mA),az.g (aK SS VB VD rfl rfl)⟩ (.R func3 results3 rfl ?_)
  cases H
  exact .m rfl (.av _)
end Go.Proofs.Ytpdanklncjopoaa
namespace Go.Proofs.Ytpdanklncjopoaa
open Go.RowKit Go.Abs
theorem qs {α:Type} [Inhabited α] {b:Bool} {x:α}:eG b (some x)=some (if b=true then x else default):=by
 unfold eG;split<;>rfl
theorem Eh {α R:Type} [Inhabited α] {step:Int->J (Int ⊕ R)} (l:O α) (p:α->Bool) (fin bad:R) (hl:l.length<18446744073709551616)
  (h1:∀ i:Int,0<=i->i<(l.length:Int)->step i=some (if p (nth l i.toNat)=true then .inl (i+1) else .inr bad)) (h2:∀ i:Int,i=(l.length:Int)->step i=some (.inr fin)):loop step 0=some (if l.all p=true then fin else bad):=by
 have:=cy (step:=step) (λi:Int=>some (if (l.drop i.toNat).all p=true then fin else bad)) (λi=>0<=i/\i<=(l.length:Int)) (λi=>((l.length:Int) - i).toNat) (λi hI=>by
  by_cases hi:i<(l.length:Int)
  ·have hd:=cR (l:=l) (k:=i.toNat) (by omega)
   rw[h1 i hI.1 hi]
   by_cases hp:p (nth l i.toNat)=true
   ·rw[if_pos hp]
    refine .inr ⟨i+1,rfl,⟨by omega,by omega⟩,by omega,?_⟩
    rw[show (i+1).toNat=i.toNat+1 from by omega,hd]
    simp[hp]
   ·rw[if_neg hp]
    refine .inl ⟨bad,rfl,?_⟩
    rw[hd]
    simp[hp]
  ·have:i=(l.length:Int):=by omega
   refine .inl ⟨fin,h2 i this,?_⟩
   rw[List.drop_of_length_le (by omega)]
   simp) (s:=0) ⟨by omega,by omega⟩ (by omega)
 simpa using this
def Hu (c:uA):Bool:=decide (48<=c) && decide (c<=57)
def js (s:O uA):Bool:=s.all Hu && decide (1<=s.length) && decide (s.length<=15)
theorem Ba (s:O uA) (hl:s.length<9223372036854775808):fq s=some (js s):=by
 unfold fq
 rw[Eh s Hu (decide ((s.length:Int)>=1) && decide ((s.length:Int)<=15)) false (by omega) (λi h0 h1=>?_) (λi hi=>?_)]
 ·unfold js
  cases s.all Hu<;>simp
  rw[Bool.eq_iff_iff];simp;omega
 ·unfold ku
  rw[if_pos (by simpa using h1),ae (by omega),ae (by omega),ae (by omega)]
  unfold Hu
  have e1:decide (nth s i.toNat<48)=!decide (48<=nth s i.toNat):=by rw[←decide_not];simp
  have e2:decide (nth s i.toNat > 57)=!decide (nth s i.toNat<=57):=by rw[←decide_not];simp
  rw[e1,e2]
  cases decide (48<=nth s i.toNat)<;>cases decide (nth s i.toNat<=57)<;>rfl
 ·unfold ku iv
  rw[if_neg (by simp;omega)]
  rfl
theorem zc (s:O uA) (hl:s.length<1000000000):fq s=some (js s):=Ba s (by omega)
def cr (r:aa):Int :=
 if ¬(1<=r.source/\r.source<=99/\1<=r.aF/\r.aF<=999999999) then 6
 else if ¬(1<=r.kind/\r.kind<=4) then 7
 else if js r.a=false∨(js r.b=false/\¬((r.kind=3∨r.kind=4)/\r.b=[])) then 12
 else if ¬(0<=r.start/\r.start<=12622780799) then 15
 else if ¬(0<=r.aJ/\r.aJ<=1099511627776)∨(r.kind=1/\r.aJ > 604800) then 6
 else if r.kind=1/\r.start+r.aJ > 12622780800 then 15
 else if ¬(0<=r.call/\r.call<=999999999/\0<=r.part/\r.part<=99) then 6
 else if ¬(r.part=0↔r.call=0)∨(r.last=true/\r.part=0) then 8
 else if ¬(0<=r.bh/\r.bh<=999) then 6
 else if r.aP=true/\r.bh=0 then 8
 else 0
theorem jM {α:Type} {b:Bool} {p:Prop} [Decidable p] {x y x' y':α} (h:b=true↔p) (hx:p->x=x') (hy:¬p->y=y'):(if b=true then x else y)=if p then x' else y':=by
 by_cases hp:p
 ·rw[if_pos hp,if_pos (h.2 hp),hx hp]
 ·rw[if_neg hp,if_neg (λhb=>hp (h.1 hb)),hy hp]
theorem K4 {α:Type} {p:Prop} [Decidable p] {x y:α}:(if p then some x else some y)=some (if p then x else y):=by split<;>rfl
theorem qt (r:aa) (ha:r.a.length<1000000000) (hb:r.b.length<1000000000):eI r=some (cr r):=by
 unfold eI cr
 simp only[iE,zc _ ha,zc _ hb,Option.bind_some,qs]
 simp only[←K4]
 refine jM (by simp;grind) (λ_=>rfl) (λh1=>?_)
 refine jM (by simp;grind) (λ_=>rfl) (λh2=>?_)
 by_cases Ud:js r.a=true
 ·rw[if_neg (by simp[Ud])]
  refine jM (by simp[Ud];grind) (λ_=>rfl) (λh3=>?_)
  refine jM (by simp;grind) (λ_=>rfl) (λh4=>?_)
  refine jM (by simp;grind) (λ_=>rfl) (λh5=>?_)
  rw[ae (by omega)]
  refine jM (by simp) (λ_=>rfl) (λh6=>?_)
  refine jM (by simp;grind) (λ_=>rfl) (λh7=>?_)
  refine jM (by simp;grind) (λ_=>rfl) (λh8=>?_)
  refine jM (by simp;grind) (λ_=>rfl) (λh9=>?_)
  refine jM (by simp) (λ_=>rfl) (λwR=>rfl)
 ·rw[if_pos (by simp[Ud]),if_pos (by simp[Ud])]
structure Good (r:aa):Prop where
 source:1<=r.source/\r.source<=99
 aF:1<=r.aF/\r.aF<=999999999
 kind:1<=r.kind/\r.kind<=4
 a:js r.a=true
 b:js r.b=true∨(r.kind=3∨r.kind=4)/\r.b=[]
 start:0<=r.start/\r.start<=12622780799
 aJ:0<=r.aJ/\r.aJ<=1099511627776
 call:0<=r.call/\r.call<=999999999
 part:0<=r.part/\r.part<=99
 bh:0<=r.bh/\r.bh<=999
theorem mf {r:aa} (h:cr r=0):Good r:=by
 unfold cr at h
 split at h;· cases h
 split at h;· cases h
 split at h;· cases h
 split at h;· cases h
 split at h;· cases h
 split at h;· cases h
 split at h;· cases h
 split at h;· cases h
 split at h;· cases h
 split at h;· cases h
 rename_i h1 h2 h3 h4 h5 h6 h7 h8 h9 wR
 refine ⟨by omega,by omega,by omega,?_,?_,by omega,by omega,by omega,by omega,by omega⟩
 ·cases hv:js r.a with
  | true=>rfl
  | false=>exact absurd (.inl hv) h3
 ·cases hv:js r.b with
  | true=>exact .inl rfl
  | false =>
   right
   by_cases hh:(r.kind=3∨r.kind=4)/\r.b=[]
   ·exact hh
   ·exact absurd (.inr ⟨hv,hh⟩) h3
theorem mg {s:O uA} (h:js s=true):s.length<=15:=by
 unfold js at h
 simp at h
 exact h.2
def wS (r:aa):O (O uA):=[(([118,116,100,99]:O uA).take r.kind.toNat).drop (r.kind-1).toNat,Go.Lib.itoa r.source,Go.Lib.itoa r.aF,r.a,if r.b=[] then [45] else r.b,Go.Lib.itoa r.start,Go.Lib.itoa r.aJ]
def Bb (r:aa):O (O uA):=if r.part=0 then [] else [[112,97,114,116],Go.Lib.itoa r.call,Go.Lib.itoa r.part]++if r.last=true then [[108,97,115,116]] else []
def zd (r:aa):O (O uA):=if r.bh=0 then [] else [if r.aP=true then [105,110] else [111,117,116],Go.Lib.itoa r.bh]
def K5 (r:aa):O (O uA):=wS r++Bb r++zd r
def oS (r:aa):O uA:=Go.Lib.join (K5 r) [32]
theorem Nk {n:Int} (h0:0<=n) (h1:n<=9223372036854775807):(Go.Lib.itoa n).length<=21:=Go.Lib.itoa_length_le n (by omega) h1
def cO (a b:aa):Bool:=decide (a.source=b.source) && decide (a.call=b.call)
theorem td {a b:aa}:cO a b=true↔a.source=b.source/\a.call=b.call:=by simp[cO]
theorem mh {a b:aa} (h:cO a b=true):cO b a=true:=by rw[td] at *;exact ⟨h.1.symm,h.2.symm⟩
theorem vv {a b c:aa} (h:cO a b=true) (h':cO b c=true):cO a c=true:=by rw[td] at *;exact ⟨h.1.trans h'.1,h.2.trans h'.2⟩
theorem Ei {a x y:aa} (h:cO x y=true):cO a x=cO a y:=by
 rw[td] at h
 simp[cO,h.1,h.2]
def Lt (a b:aa):Prop:=a.source<b.source∨(a.source=b.source/\(a.call<b.call∨(a.call=b.call/\a.part<b.part)))
instance (a b:aa):Decidable (Lt a b):=by unfold Lt;infer_instance
def Le (a b:aa):Prop:=¬ Lt b a
instance (a b:aa):Decidable (Le a b):=by unfold Le;infer_instance
theorem K6 {a b:aa}:Le a b↔a.source<b.source∨(a.source=b.source/\(a.call<b.call∨(a.call=b.call/\a.part<=b.part))):=by
 unfold Le Lt;omega
theorem K7 {a b c:aa} (h:Le a b) (h':Le b c):Le a c:=by rw[K6] at *;omega
theorem Ej {a b:aa} (h:Lt a b):Le a b:=by rw[K6];unfold Lt at h;omega
abbrev Tm (l:O aa):Prop:=l.Pairwise Le
def m6:List aa->aa->List aa
 | [],p=>[p]
 | r::l,p=>if Lt p r then p::r::l else r::m6 l p
theorem qu:∀ (l:O aa) (p:aa),(m6 l p).Perm (p::l)
 | [],p=>.refl _
 | r::l,p=>by
  unfold m6
  split
  ·exact .refl _
  ·exact ((qu l p).cons r).trans (.swap _ _ _)
theorem ze (l:O aa) (p:aa):(m6 l p).length=l.length+1:=(qu l p).length_eq
theorem qw {l:O aa} {p x:aa}:x∈m6 l p↔x=p∨x∈l:=by rw[(qu l p).mem_iff,List.mem_cons]
theorem zf:∀ {l:O aa} {p:aa},Tm l->Tm (m6 l p)
 | [],p,_=>by simp[m6,Tm]
 | r::l,p,h=>by
  unfold m6
  have h2:=List.pairwise_cons.1 h
  split
  ·rename_i hp
   refine List.pairwise_cons.2 ⟨λx hx=>?_,h⟩
   rcases List.mem_cons.1 hx with e|hx
   ·rw[e];exact Ej hp
   ·exact K7 (Ej hp) (h2.1 x hx)
  ·rename_i hp
   refine List.pairwise_cons.2 ⟨λx hx=>?_,zf h2.2⟩
   rcases qw.1 hx with e|hx
   ·rw[e];exact hp
   ·exact h2.1 x hx
theorem wT (q:aa->Bool) {p:aa} (hp:q p=false):∀ (l:O aa),(m6 l p).filter q=l.filter q
 | []=>by simp[m6,hp]
 | r::l=>by
  unfold m6
  split
  ·rw[List.filter_cons_of_neg (by simp[hp])]
  ·simp only[List.filter_cons,wT q hp l]
def oY (last:Bool) (x:aa):Int->List aa->List aa×List aa
 | _,[]=>([],[])
 | n,r::l=>if cO r x=true/\r.part=n then (if last=true/\r.last=true then ([r],l) else (r::(oY last x (n+1) l).1,(oY last x (n+1) l).2)) else ((oY last x n l).1,r::(oY last x n l).2)
theorem sL (last:Bool) (x:aa):∀ (n:Int) (l:O aa),((oY last x n l).1++(oY last x n l).2).Perm l
 | _,[]=>.refl _
 | n,r::l=>by
  unfold oY
  split
  ·split
   ·exact .refl _
   ·exact (sL last x (n+1) l).cons r
  ·exact (List.perm_middle).trans ((sL last x n l).cons r)
theorem xt (last:Bool) (x:aa):∀ (n:Int) (l:O aa),(oY last x n l).2.Sublist l
 | _,[]=>.slnil
 | n,r::l=>by
  unfold oY
  split
  ·split
   ·exact List.sublist_cons_self _ _
   ·exact (xt last x (n+1) l).cons r
  ·exact (xt last x n l).cons_cons r
theorem uu (last:Bool) (x:aa) (q:aa->Bool) (hq:∀ r,cO r x=true->q r=false):∀ (n:Int) (l:O aa),(oY last x n l).2.filter q=l.filter q
 | _,[]=>rfl
 | n,r::l=>by
  unfold oY
  split
  ·rename_i h
   split
   ·rw[List.filter_cons_of_neg (by simp[hq r h.1])]
   ·rw[List.filter_cons_of_neg (by simp[hq r h.1])]
    exact uu last x q hq (n+1) l
  ·simp only[List.filter_cons,uu last x q hq n l]
theorem lv (last:Bool) (x:aa) (q:aa->Bool) (hq:∀ r,cO r x=true->q r=true):∀ (n:Int) (l:O aa),(oY last x n (l.filter q)).1=(oY last x n l).1
 | _,[]=>rfl
 | n,r::l=>by
  by_cases h:q r=true
  ·rw[List.filter_cons_of_pos h]
   unfold oY
   simp only[lv last x q hq (n+1) l,lv last x q hq n l]
   split
   ·split<;>rfl
   ·rfl
  ·rw[List.filter_cons_of_neg h,lv last x q hq n l]
   conv=>rhs;unfold oY
   rw[if_neg (λhc=>h (hq r hc.1))]
theorem Cn (last:Bool) {x y:aa} (h:cO x y=true):∀ (n:Int) (l:O aa),oY last x n l=oY last y n l
 | _,[]=>rfl
 | n,r::l=>by
  unfold oY
  rw[Ei (a:=r) h,Cn last h (n+1) l,Cn last h n l]
def vx:List aa->Int
 | []=>0
 | r::l=>r.aJ+vx l
def Fq (q:aa) (u:Int):aa:=⟨q.source,q.aF,q.kind,q.a,q.b,q.start,u,0,0,false,q.bh,q.aP⟩
def Comm (p q:aa):Prop:=p.source=q.source/\p.call=q.call/\p.kind=q.kind/\p.a=q.a/\p.b=q.b/\p.bh=q.bh/\p.aP=q.aP
instance (a b:aa):Decidable (Comm a b):=by unfold Comm;infer_instance
def ry:List aa->Option aa
 | []=>none
 | q::l=>if ((q::l).all λp=>decide (p.part≠0/\cr p=0/\Comm p q))=true/\cr (Fq q (vx (q::l)))=0 then some (Fq q (vx (q::l))) else none
def Nl:Int->List aa->Bool
 | _,[]=>true
 | n,r::l=>decide (r.part=n) && decide (r.last=l.isEmpty) && Nl (n+1) l
def mi (l:O aa):J aa:=if Nl 1 l=true then ry l else none
theorem zg:mi []=none:=rfl
def eK:Nat->List aa->aa->List aa×List aa
 | 0,now,_=>([],now)
 | m+1,now,x=>match mi (oY true x 1 now).1 with
  | none=>([],now)
  | some w=>(w::(eK m (oY true x 1 now).2 x).1,(eK m (oY true x 1 now).2 x).2)
def ic (now:O aa) (r:aa):O aa×O aa:=if r.part=0 then ([r],now) else eK (now.length+2) (m6 now r) r
def eL:List aa->List aa->List aa×List aa
 | now,[]=>([],now)
 | now,r::l=>((ic now r).1++(eL (ic now r).2 l).1,(eL (ic now r).2 l).2)
structure O5 (l:O aa):Prop where
 IQ:Tm l
 ok:∀ r,r∈l->cr r=0/\r.part≠0
 nc:∀ x,mi (oY true x 1 l).1=none
theorem xu {last:Bool} {x:aa} {n:Int} {l:O aa}:(oY last x n l).1.length+(oY last x n l).2.length=l.length:=by
 have:=(sL last x n l).length_eq
 rwa [List.length_append] at this
theorem qx {l:O aa} {w:aa} (h:mi l=some w):l≠[]:=by intro e;rw[e,zg] at h;cases h
theorem zh (x:aa):∀ (m:Nat) (now:O aa),now.length<m->mi (oY true x 1 (eK m now x).2).1=none/\(eK m now x).2.Sublist now/\(∀ q:aa->Bool,(∀ r,cO r x=true->q r=false)->(eK m now x).2.filter q=now.filter q)
 | 0,now,h=>by omega
 | m+1,now,h=>by
  unfold eK
  split
  ·rename_i hc
   exact ⟨hc,List.Sublist.refl _,λ_ _=>rfl⟩
  ·rename_i w hc
   have hl:=xu (last:=true) (x:=x) (n:=1) (l:=now)
   have hp:0<(oY true x 1 now).1.length:=List.length_pos_iff.2 (qx hc)
   obtain ⟨h1,h2,h3⟩:=zh x m (oY true x 1 now).2 (by omega)
   refine ⟨h1,h2.trans (xt _ _ _ _),λq hq=>?_⟩
   rw[h3 q hq,uu true x q hq]
theorem IS {now:O aa} {r:aa} (h:O5 now) (hr:cr r=0):O5 (ic now r).2:=by
 unfold ic
 split
 ·exact h
 ·rename_i hp
  obtain ⟨h1,h2,h3⟩:=zh r (now.length+2) (m6 now r) (by rw[ze];omega)
  refine ⟨(zf h.IQ).sublist h2,λy hy=>?_,λx=>?_⟩
  ·rcases qw.1 (h2.subset hy) with e|hy
   ·rw[e];exact ⟨hr,hp⟩
   ·exact h.ok y hy
  ·by_cases hc:cO x r=true
   ·rw[Cn true hc];exact h1
   ·have hq:∀ y,cO y r=true->(λy=>cO y x) y=false:=λy hy=>by
     cases WE:cO y x with
     | false=>simpa using WE
     | true=>exact absurd (vv (mh WE) hy) hc
    have e:=h3 (λy=>cO y x) hq
    rw[wT _ (by simpa using hq r (by simp[cO]))] at e
    rw[←lv true x (λy=>cO y x) (λ_ h=>h),e,lv true x _ (λ_ h=>h)]
    exact h.nc x
theorem Bc:∀ {l now:O aa},O5 now->(∀ r,r∈l->cr r=0)->O5 (eL now l).2
 | [],_,h,_=>h
 | r::l,_,h,hl=>by
  unfold eL
  exact Bc (IS h (hl r (List.mem_cons_self ..))) (λy hy=>hl y (List.mem_cons_of_mem _ hy))
abbrev Ek (l:O aa):Prop:=l.Pairwise λa b=>¬(cO a b=true/\a.part=b.part)
def K8 (T:O aa) (x:aa) (n:Int):J aa:=T.find? (λr=>cO r x && decide (r.part=n))
theorem IT {a b:aa} (h:¬(cO a b=true/\a.part=b.part)):¬(cO b a=true/\b.part=a.part):=λh'=>h ⟨mh h'.1,h'.2.symm⟩
theorem Ek.perm {l l':O aa} (h:Ek l) (p:l.Perm l'):Ek l':=(p.pairwise_iff (λh=>IT h)).1 h
theorem Hv {T:O aa} (h:Ek T) {x:aa} {n:Int} {r:aa}:K8 T x n=some r↔r∈T/\cO r x=true/\r.part=n:=by
 constructor
 ·intro hf
  have h1:=List.find?_some hf
  simp at h1
  exact ⟨List.mem_of_find?_eq_some hf,h1⟩
 ·intro ⟨hm,hc,hn⟩
  induction T with
  | nil=>cases hm
  | cons y T ih =>
   have h2:=List.pairwise_cons.1 h
   unfold K8
   rcases List.mem_cons.1 hm with e|hm
   ·rw[←e,List.find?_cons_of_pos (by simp[hc,hn])]
   ·rw[List.find?_cons_of_neg (by
     intro hy;simp at hy
     exact h2.1 r hm ⟨vv hy.1 (mh hc),by omega⟩)]
    exact ih h2.2 hm
theorem K9 {T T':O aa} (h:Ek T) (p:T.Perm T') (x:aa) (n:Int):K8 T x n=K8 T' x n:=by
 apply Option.ext
 intro r
 rw[Hv h,Hv (h.perm p),p.mem_iff]
def QR (T:List aa) (x:aa):Nat->Int->List aa
 | 0,_=>[]
 | m+1,n=>match K8 T x n with
  | none=>[]
  | some r=>r::if r.last=true then [] else QR T x m (n+1)
theorem qy {T T':O aa} {x y:aa} (h:∀ n,K8 T x n=K8 T' y n):∀ (m:Nat) (n:Int),QR T x m n=QR T' y m n
 | 0,_=>rfl
 | m+1,n=>by
  unfold QR
  rw[h n,qy h m (n+1)]
theorem xv {T:O aa} {x:aa}:∀ (m:Nat) (n:Int) (r:aa),r∈QR T x m n->r∈T/\cO r x=true
 | 0,_,r,h=>by cases h
 | m+1,n,r,h=>by
  unfold QR at h
  split at h
  ·cases h
  ·rename_i y hy
   have h1:=List.find?_some hy
   simp at h1
   rcases List.mem_cons.1 h with e|h
   ·rw[e];exact ⟨List.mem_of_find?_eq_some hy,h1.1⟩
   ·split at h
    ·cases h
    ·exact xv m (n+1) r h
abbrev El (T:O aa) (x:aa):O aa:=QR T x 99 1
theorem vy {T T':O aa} (h:Ek T) (p:T.Perm T') (x:aa):El T x=El T' x:=qy (K9 h p x) _ _
theorem Nm {T:O aa} {x y:aa} (h:cO x y=true):El T x=El T y:=qy (λn=>by
 unfold K8
 congr 1
 funext r
 rw[Ei (a:=r) h]) _ _
theorem tM {C U:O aa} {x:aa} (h:∀ r,r∈C->cO r x=false) (n:Int):K8 (C++U) x n=K8 U x n:=by
 unfold K8
 rw[List.find?_append,List.find?_eq_none.2 (λr hr=>by simp[h r hr])]
 rfl
def Hw (T:O aa) (w:aa) (U:O aa):Prop:=Ek T/\∃ x,mi (El T x)=some w/\T.Perm (El T x++U)
theorem Hw.perm {T T' U:O aa} {w:aa} (h:Hw T w U) (p:T.Perm T'):Hw T' w U:=by
 obtain ⟨h1,x,h2,h3⟩:=h
 refine ⟨h1.perm p,x,?_,?_⟩
 ·rw[←vy h1 p];exact h2
 ·rw[←vy h1 p];exact p.symm.trans h3
theorem Hw.len {T U:O aa} {w:aa} (h:Hw T w U):U.length<T.length:=by
 obtain ⟨h1,x,h2,h3⟩:=h
 have:=h3.length_eq
 have h4:0<(El T x).length:=List.length_pos_iff.2 (qx h2)
 rw[List.length_append] at this
 omega
theorem Hw.Tn {T U:O aa} {w:aa} (h:Hw T w U):Ek U:=by
 obtain ⟨h1,x,h2,h3⟩:=h
 exact (List.pairwise_append.1 (h1.perm h3)).2.1
theorem filter_none {p:aa->Bool} {l:O aa} (h:∀ r,r∈l->p r=false):l.filter p=[]:=List.filter_eq_nil_iff.2 (λr hr=>by simp[h r hr])
theorem filter_all {p:aa->Bool} {l:O aa} (h:∀ r,r∈l->p r=true):l.filter p=l:=List.filter_eq_self.2 h
theorem Co (p:aa->Bool) (l:O aa):l.Perm (l.filter p++l.filter (λr=>!p r)):=(List.filter_append_perm p l).symm
theorem Hw.Nn {T U1 U2:O aa} {w1 w2:aa} (h1:Hw T w1 U1) (h2:Hw T w2 U2):(w1=w2/\U1.Perm U2)∨∃ V,Hw U1 w2 V/\Hw U2 w1 V:=by
 have d1:=h1.Tn
 have d2:=h2.Tn
 obtain ⟨hd,x,hx,px⟩:=h1
 obtain ⟨_,y,hy,py⟩:=h2
 by_cases hc:cO x y=true
 ·left
  rw[Nm hc] at hx px
  rw[hx] at hy
  exact ⟨by injection hy,(List.perm_append_left_iff _).1 (px.symm.trans py)⟩
 ·right
  have nx:∀ r,r∈El T x->cO r y=false:=λr hr=>by
   cases XA:cO r y with
   | false=>rfl
   | true=>exact absurd (vv (mh (xv _ _ r hr).2) XA) hc
  have ny:∀ r,r∈El T y->cO r x=false:=λr hr=>by
   cases XB:cO r x with
   | false=>rfl
   | true=>exact absurd (mh (vv (mh (xv _ _ r hr).2) XB)) hc
  have e1:El U1 y=El T y:=by
   rw[vy hd px y]
   exact (qy (tM nx) _ _).symm
  have e2:El U2 x=El T x:=by
   rw[vy hd py x]
   exact (qy (tM ny) _ _).symm
  have fy:=px.symm.trans py
  have q1:=fy.filter (λr=>cO r y)
  rw[List.filter_append,List.filter_append,filter_none nx,filter_all (λr hr=>(xv _ _ r hr).2),List.nil_append] at q1
  have p1:U1.Perm (El T y++(U2.filter (λr=>cO r y)++U1.filter (λr=>!cO r y))):=by
   refine (Co (λr=>cO r y) U1).trans ?_
   rw[←List.append_assoc]
   exact q1.append_right _
  refine ⟨U2.filter (λr=>cO r y)++U1.filter (λr=>!cO r y),⟨d1,y,by rw[e1];exact hy,by rw[e1];exact p1⟩,⟨d2,x,by rw[e2];exact hx,?_⟩⟩
  rw[e2]
  have k1:T.Perm (El T y++(El T x++(U2.filter (λr=>cO r y)++U1.filter (λr=>!cO r y)))):=by
   refine px.trans ((p1.append_left _).trans ?_)
   rw[←List.append_assoc,←List.append_assoc (El T y)]
   exact List.perm_append_comm.append_right _
  exact (List.perm_append_left_iff _).1 (py.symm.trans k1)
inductive tn:List aa->List aa->List aa->Prop where
 | nil {T U:List aa}:T.Perm U->tn T [] U
 | cons {T U V:List aa} {w:aa} {o:List aa}:Hw T w U->tn U o V->tn T (w::o) V
def NF (T:O aa):Prop:=∀ w U,¬ Hw T w U
theorem tn.perm {T T' o U:O aa} (h:tn T o U) (p:T.Perm T'):tn T' o U:=by
 cases h with
 | nil q=>exact .nil (p.symm.trans q)
 | cons r s=>exact .cons (r.perm p) s
theorem tn.ex:∀ (n:Nat) (T:List aa),T.length<=n->∃ o U,tn T o U/\NF U
 | n,T,hn=>by
  by_cases h:NF T
  ·exact ⟨[],T,.nil (.refl _),h⟩
  ·simp only[NF,Classical.not_forall,Classical.not_not] at h
   obtain ⟨w,U,h⟩:=h
   have hl:=h.len
   match n,hn with
   | 0,hn=>omega
   | n+1,hn =>
    obtain ⟨o,V,h1,h2⟩:=tn.ex n U (by omega)
    exact ⟨w::o,V,.cons h h1,h2⟩
theorem tn.uniq:∀ (n:Nat) {T o1 o2 U1 U2:List aa},T.length<=n->tn T o1 U1->NF U1->tn T o2 U2->NF U2->o1.Perm o2/\U1.Perm U2
 | n,T,o1,o2,U1,U2,hn,h1,n1,h2,n2=>by
  cases h1 with
  | nil p1 =>
   cases h2 with
   | nil p2=>exact ⟨.refl _,p1.symm.trans p2⟩
   | cons r s=>exact absurd (r.perm p1) (n1 _ _)
  | cons r1 s1 =>
   rename_i V1 w1 q1
   cases h2 with
   | nil p2=>exact absurd (r1.perm p2) (n2 _ _)
   | cons r2 s2 =>
    rename_i V2 w2 q2
    have l1:=r1.len
    have l2:=r2.len
    match n,hn with
    | 0,hn=>omega
    | n+1,hn =>
     rcases r1.Nn r2 with ⟨e,p⟩|⟨V,k1,k2⟩
     ·obtain ⟨a,b⟩:=tn.uniq n (by omega) s1 n1 (s2.perm p.symm) n2
      rw[e]
      exact ⟨a.cons _,b⟩
     ·obtain ⟨o3,U3,s3,n3⟩:=tn.ex V.length V (Nat.le_refl _)
      obtain ⟨a1,b1⟩:=tn.uniq n (by omega) s1 n1 (.cons k1 s3) n3
      obtain ⟨a2,b2⟩:=tn.uniq n (by omega) s2 n2 (.cons k2 s3) n3
      exact ⟨(a1.cons _).trans ((List.Perm.swap _ _ _).trans (a2.cons _).symm),b1.trans b2.symm⟩
def lx:Int->List Int->List aa->List aa×List aa
 | _,_,[]=>([],[])
 | _,[],r::l=>([],r::l)
 | i,a::zT,r::l=>if a=i then (r::(lx (i+1) zT l).1,(lx (i+1) zT l).2) else ((lx (i+1) (a::zT) l).1,r::(lx (i+1) (a::zT) l).2)
def tp (last:Bool) (x:aa):Int->Int->List aa->List Int
 | _,_,[]=>[]
 | n,i,r::l=>if cO r x=true/\r.part=n then (if last=true/\r.last=true then [i] else i::tp last x (n+1) (i+1) l) else tp last x n (i+1) l
theorem qz (i:Int) (l:O aa):lx i [] l=([],l):=by cases l<;>rfl
theorem Cp (last:Bool) (x:aa):∀ (n i:Int) (l:O aa),∀ a,a∈tp last x n i l->i<=a/\a<i+l.length
 | _,_,[]=>by simp[tp]
 | n,i,r::l=>by
  intro a h
  unfold tp at h
  simp only[List.length_cons]
  split at h
  ·split at h
   ·simp at h;omega
   ·rcases List.mem_cons.1 h with e|h
    ·omega
    ·have:=Cp last x (n+1) (i+1) l a h;omega
  ·have:=Cp last x n (i+1) l a h;omega
theorem Ge {i:Int} {zT:O Int} {r:aa} {l:O aa} (h:∀ a,a∈zT->i+1<=a):lx i zT (r::l)=((lx (i+1) zT l).1,r::(lx (i+1) zT l).2):=by
 cases zT with
 | nil=>rw[qz,qz]
 | cons a zT =>
  conv=>lhs;unfold lx
  rw[if_neg (by have:=h a (List.mem_cons_self ..);omega)]
theorem uv (last:Bool) (x:aa):∀ (n i:Int) (l:O aa),lx i (tp last x n i l) l=oY last x n l
 | _,_,[]=>by simp[tp,lx,oY]
 | n,i,r::l=>by
  unfold tp oY
  split
  ·split
   ·unfold lx
    rw[if_pos rfl,qz]
   ·unfold lx
    rw[if_pos rfl,uv last x (n+1) (i+1) l]
  ·rw[Ge (λa ha=>(Cp _ _ _ _ _ a ha).1),uv last x n (i+1) l]
theorem La {S R α:Type} [Inhabited α] {step:S->J (S ⊕ R)} (l:O α) (idx:S->Int) (F:S->O α->J R) (I:S->O α->Prop) (hl:l.length<1000000000)
  (h0:∀ s,I s []->idx s=(l.length:Int)->∃ r,step s=some (.inr r)/\F s []=some r)
  (h1:∀ s a t,I s (a::t)->0<=idx s->idx s<(l.length:Int)->nth l (idx s).toNat=a->idx s+1+(t.length:Int)=(l.length:Int) ->
   (∃ r,step s=some (.inr r)/\F s (a::t)=some r)∨∃ s',step s=some (.inl s')/\I s' t/\idx s'=idx s+1/\F s' t=F s (a::t))
  {s:S} (hi:0<=idx s/\idx s<=(l.length:Int)) (hI:I s (l.drop (idx s).toNat)):loop step s=F s (l.drop (idx s).toNat):=by
 refine cy (step:=step) (λs=>F s (l.drop (idx s).toNat)) (λs=>(0<=idx s/\idx s<=(l.length:Int))/\I s (l.drop (idx s).toNat)) (λs=>((l.length:Int) - idx s).toNat) (λs hs=>?_) ⟨hi,hI⟩ (by omega)
 obtain ⟨⟨b0,b1⟩,hs⟩:=hs
 by_cases cd:idx s<(l.length:Int)
 ·have hd:=cR (l:=l) (k:=(idx s).toNat) (by omega)
  rw[hd] at hs ⊢
  rcases h1 s _ _ hs b0 cd rfl (by rw[List.length_drop];omega) with ⟨r,e1,e2⟩|⟨s',e1,e2,e3,e4⟩
  ·exact .inl ⟨r,e1,e2⟩
  ·refine .inr ⟨s',e1,⟨by omega,?_⟩,by omega,?_⟩
   ·rw[e3,show (idx s+1).toNat=(idx s).toNat+1 from by omega];exact e2
   ·rw[e3,show (idx s+1).toNat=(idx s).toNat+1 from by omega];exact e4
 ·have he:idx s=(l.length:Int):=by omega
  rw[List.drop_of_length_le (by omega)] at hs ⊢
  exact .inl (h0 s hs he)
theorem bL {S R α:Type} [Inhabited α] {step:S->J (S ⊕ R)} (l:O α) (idx:S->Int) (F:S->O α->J R) (I:S->O α->Prop) (hl:l.length<1000000000)
  (h0:∀ s,I s []->idx s=(l.length:Int)->∃ r,step s=some (.inr r)/\F s []=some r)
  (h1:∀ s a t,I s (a::t)->0<=idx s->idx s<(l.length:Int)->nth l (idx s).toNat=a->idx s+1+(t.length:Int)=(l.length:Int) ->
   (∃ r,step s=some (.inr r)/\F s (a::t)=some r)∨∃ s',step s=some (.inl s')/\I s' t/\idx s'=idx s+1/\F s' t=F s (a::t))
  {s:S} (hi:idx s=0) (hI:I s l):loop step s=F s l:=by
 have:=La l idx F I hl h0 h1 (s:=s) ⟨by omega,by omega⟩ (by rw[hi];exact hI)
 rw[hi] at this
 exact this
def Sm (r:aa):Prop:=r.a.length<=200/\r.b.length<=200
instance (r:aa):Decidable (Sm r):=by unfold Sm;infer_instance
theorem zi (r:aa) (h:Sm r):fx r=some (cr r):=by
 unfold fx
 unfold Sm at h
 rw[qt r (by omega) (by omega)];rfl
theorem xw {r:aa} (h:cr r=0):Sm r:=by
 have g:=mf h
 have ha:=mg g.a
 unfold Sm
 rcases g.b with h|h
 ·have:=mg h;omega
 ·rw[h.2];simp;omega
theorem To {q:aa} (h:Sm q) (u:Int):Sm (Fq q u):=h
def Ue:aa×Bool:=((⟨0,0,0,([]:O uA),([]:O uA),0,0,0,0,false,0,false⟩:aa),false)
def Cq:Option aa->aa×Bool
 | none=>Ue
 | some w=>(w,true)
def QS (q p:aa):Prop:=p.part≠0/\cr p=0/\Comm p q
instance (q p:aa):Decidable (QS q p):=by unfold QS;infer_instance
theorem Em {q:aa} {u v:Int} (h:cr (Fq q v)=0) (h0:0<=u) (h1:u<=v):cr (Fq q u)=0:=by
 have g:=mf h
 unfold cr Fq at h ⊢
 simp only at h ⊢
 split at h;· cases h
 split at h;· cases h
 split at h;· cases h
 split at h;· cases h
 split at h;· cases h
 split at h;· cases h
 rename_i q1 q2 q3 q4 q5 q6
 rw[if_neg q1,if_neg q2,if_neg q3,if_neg q4,if_neg (by omega),if_neg (by omega)]
 exact h
theorem En {q:aa}:∀ {t:O aa},(∀ p,p∈t->QS q p)->0<=vx t
 | [],_=>by simp[vx]
 | r::t,h=>by
  have:=En (λp hp=>h p (List.mem_cons_of_mem _ hp))
  have:=(mf (h r (List.mem_cons_self ..)).2.1).aJ
  simp only[vx];omega
def Lb (q:aa) (u:Int) (t:O aa):J aa:=if (t.all λp=>decide (QS q p))=true/\cr (Fq q (u+vx t))=0 then some (Fq q (u+vx t)) else none
theorem Gf (q:aa) (l:O aa):ry (q::l)=Lb q 0 (q::l):=by
 unfold ry Lb
 rw[Int.zero_add]
 rfl
theorem Eo {q r:aa} {u:Int} {t:O aa} (h:QS q r):Lb q u (r::t)=Lb q (u+r.aJ) t:=by
 unfold Lb
 have e:u+vx (r::t)=u+r.aJ+vx t:=by simp only[vx];omega
 rw[e,List.all_cons,decide_eq_true h,Bool.true_and]
theorem Hy {q r:aa} {u:Int} {t:O aa} (h:¬ QS q r):Lb q u (r::t)=none:=by
 unfold Lb
 rw[List.all_cons,decide_eq_false h,Bool.false_and,if_neg (by simp)]
theorem Lc {q:aa} {u:Int} {t:O aa} (h0:0<=u) (h:cr (Fq q u)≠0):Lb q u t=none:=by
 unfold Lb
 rw[if_neg]
 rintro ⟨h1,h2⟩
 have hp:=En (q:=q) (t:=t) (λp hp=>by have:=List.all_eq_true.1 h1 p hp;simpa using this)
 exact h (Em h2 h0 (by omega))
theorem Ld (l:O aa) (hs:∀ r,r∈l->Sm r) (hl:l.length<=100000):kf l=some (Cq (ry l)):=by
 cases l with
 | nil =>
  unfold kf
  refine bL ([]:O aa) (λs:Int×Int×Int×Int×O uA×O uA×Int×Int×Int×Bool=>s.1) (λs t=>some (Cq (ry []))) (λs t=>s=(0,0,0,0,([]:O uA),([]:O uA),0,0,0,false)/\t=[]) (by simp) ?_ ?_ rfl ⟨rfl,rfl⟩
  ·rintro s ⟨h,_⟩ hi
   rw[h]
   exact ⟨_,rfl,rfl⟩
  ·rintro s a t ⟨_,h⟩
   cases h
 | cons q l =>
  rw[Gf]
  unfold kf
  have hq:=hs q (List.mem_cons_self ..)
  have e0:nth (q::l) (Int.toNat 0)=q:=rfl
  have No:(0:Int)<((q::l).length:Int):=by simp only[List.length_cons];omega
  refine bL (q::l) (λs:Int×Int×Int×Int×O uA×O uA×Int×Int×Int×Bool=>s.1) (λs t=>some (Cq (Lb q s.2.2.2.2.2.2.2.1 t)))
   (λs t=>(0<=s.2.2.2.2.2.2.2.1/\s.2.2.2.2.2.2.2.1<=1099511627776)/\(∀ r,r∈t->Sm r)/\(s.1=0∨(cr (Fq q s.2.2.2.2.2.2.2.1)=0/\s=(s.1,q.source,q.aF,q.kind,q.a,q.b,q.start,s.2.2.2.2.2.2.2.1,q.bh,q.aP)))) (by omega) ?_ ?_ rfl ⟨by decide,hs,.inl rfl⟩
  ·rintro ⟨i,c0,c1,c2,c3,c4,c5,u,XC,XD⟩ ⟨h0,h1,h2⟩ hi
   simp only at h0 h1 h2 hi ⊢
   rcases h2 with h2|⟨h2,h3⟩
   ·omega
   ·injection h3 with _ h3
    injection h3 with e0 h3
    injection h3 with e1 h3
    injection h3 with e2 h3
    injection h3 with e3 h3
    injection h3 with e4 h3
    injection h3 with e5 h3
    injection h3 with _ h3
    injection h3 with XE XF
    subst e0 e1 e2 e3 e4 e5 XE XF
    unfold lh iH
    rw[if_neg (by simp only[decide_eq_true_eq];omega),decide_eq_true No]
    refine ⟨_,rfl,?_⟩
    simp only[Lb,List.all_nil,vx,true_and,Int.add_zero]
    rw[if_pos h2]
    rfl
  ·rintro ⟨i,c0,c1,c2,c3,c4,c5,u,XC,XD⟩ r t ⟨h0,h1,h2⟩ om nu hn hlen
   simp only at h0 h1 h2 om nu hn hlen ⊢
   clear h2
   unfold lh
   have hr:=h1 r (List.mem_cons_self ..)
   rw[if_pos (by simpa using nu),ae ⟨om,nu⟩,hn,zi r hr,e0]
   simp only[l8,qs,Option.bind_some]
   by_cases hk:r.part≠0/\cr r=0
   ·have b1:(r.part==0)=false:=by simpa using hk.1
    have gu:=(mf hk.2).aJ
    rw[if_neg (by simp[b1,hk.2]),ae (by omega),ae ⟨Int.le_refl _,No⟩]
    by_cases hc:Comm r q
    ·have vJ:QS q r:=⟨hk.1,hk.2,hc⟩
     rw[if_neg (by
      obtain ⟨a1,a2,a3,a4,a5,a6,a7⟩:=hc
      simp[a1,a2,a3,a4,a5,a6,a7])]
     change (∃ Yq,((fx (Fq q (u+r.aJ))).bind _)=_/\_)∨∃ s',((fx (Fq q (u+r.aJ))).bind _)=_/\_
     rw[zi _ (To hq _)]
     simp only[Option.bind_some]
     by_cases he:cr (Fq q (u+r.aJ))=0
     ·have ge:=(mf he).aJ
      simp only[Fq] at ge
      rw[if_neg (by simp[he]),ae (by omega)]
      refine .inr ⟨_,rfl,⟨by simp only;omega,λp hp=>h1 p (List.mem_cons_of_mem _ hp),.inr ⟨he,rfl⟩⟩,rfl,?_⟩
      rw[Eo vJ]
     ·rw[if_pos (by simpa using he)]
      refine .inl ⟨_,rfl,?_⟩
      rw[Eo vJ,Lc (by omega) he]
      rfl
    ·rw[if_pos (by
      unfold Comm at hc
      simp only[Bool.or_eq_true,Bool.not_eq_true',Bool.and_eq_false_iff,bne_iff_ne,beq_eq_false_iff_ne]
      by_cases a1:r.source=q.source
      ·by_cases a2:r.call=q.call
       ·by_cases a3:r.kind=q.kind
        ·by_cases a4:r.a=q.a
         ·by_cases a5:r.b=q.b
          ·by_cases a6:r.bh=q.bh
           ·by_cases a7:r.aP=q.aP
            ·exact absurd ⟨a1,a2,a3,a4,a5,a6,a7⟩ hc
            ·exact .inr a7
           ·exact .inl (.inr a6)
          ·exact .inl (.inl (.inr a5))
         ·exact .inl (.inl (.inl (.inr a4)))
        ·exact .inl (.inl (.inl (.inl (.inr a3))))
       ·exact .inl (.inl (.inl (.inl (.inl (.inr a2)))))
      ·exact .inl (.inl (.inl (.inl (.inl (.inl a1))))))]
     refine .inl ⟨_,rfl,?_⟩
     rw[Hy (λh=>hc h.2.2)]
     rfl
   ·rw[if_pos (by
     by_cases hp:r.part=0
     ·simp[hp]
     ·simp[hp]
      intro he;exact hk ⟨hp,he⟩)]
    refine .inl ⟨_,rfl,?_⟩
    rw[Hy (λh=>hk ⟨h.1,h.2.1⟩)]
    rfl
theorem Np (b:Bool) (o:J aa):(if b=true then Cq o else Ue)=Cq (if b=true then o else none):=by split<;>rfl
theorem Ep (l:O aa) (hs:∀ r,r∈l->Sm r) (hl:l.length<=100000):iI l=some (Cq (mi l)):=by
 unfold iI mi
 rw[←Np]
 refine bL l (λs:Int=>s) (λs t=>some (if Nl (s+1) t=true then Cq (ry l) else Ue)) (λs t=>True) (by omega) ?_ ?_ rfl trivial
 ·intro i _ hi
  unfold hZ fz
  rw[if_neg (by simp only[decide_eq_true_eq];omega),Ld l hs hl]
  exact ⟨_,rfl,rfl⟩
 ·intro i r t _ om nu hn hlen
  unfold hZ
  rw[if_pos (by simpa using nu),ae ⟨om,nu⟩,hn,ae (by omega),ae (λ_=>⟨om,nu⟩),ae (λ_=>by omega)]
  have el:((i+1)==(l.length:Int))=t.isEmpty:=by
   rw[Bool.eq_iff_iff]
   cases t with
   | nil=>simp at hlen ⊢;omega
   | cons=>simp at hlen ⊢;omega
  rw[el]
  simp only[Nl]
  by_cases hp:r.part=i+1
  ·by_cases MD:r.last=t.isEmpty
   ·rw[if_neg (by simp[hp,MD]),ae (by omega)]
    refine .inr ⟨_,rfl,trivial,rfl,?_⟩
    simp[hp,MD]
   ·rw[if_pos (by simp[hp,MD])]
    refine .inl ⟨_,rfl,?_⟩
    simp[hp,MD];rfl
  ·rw[if_pos (by simp[hp])]
   refine .inl ⟨_,rfl,?_⟩
   simp[hp];rfl
theorem Lf (l:O aa) (x:aa) (last:Bool) (hl:l.length<=100000):lg l x last=some (tp last x 1 0 l):=by
 unfold lg
 refine bL l (λs:O Int×Int=>s.2) (λs t=>some (s.1++tp last x ((s.1.length:Int)+1) s.2 t)) (λs t=>(s.1.length:Int)<=s.2) (by omega) ?_ ?_ rfl (by simp)
 ·rintro ⟨out,i⟩ h hi
  simp only at h hi ⊢
  unfold jV
  rw[if_neg (by simp only[decide_eq_true_eq];omega)]
  exact ⟨_,rfl,by simp[tp]⟩
 ·rintro ⟨out,i⟩ r t h om nu hn hlen
  simp only at h om nu hn hlen ⊢
  unfold jV
  rw[if_pos (by simpa using nu),ae ⟨om,nu⟩,hn]
  simp only[l8,Option.bind_some]
  rw[ae (λ_=>⟨om,nu⟩),ae (λ_=>by omega)]
  have ec:((r.source==x.source) && (r.call==x.call))=cO r x:=by rw[Bool.eq_iff_iff,td];simp
  rw[ec,show tp last x ((out.length:Int)+1) i (r::t)=(if cO r x=true/\r.part=(out.length:Int)+1 then (if last=true/\r.last=true then [i] else i::tp last x ((out.length:Int)+1+1) (i+1) t) else tp last x ((out.length:Int)+1) (i+1) t) from rfl]
  by_cases hc:cO r x=true/\r.part=(out.length:Int)+1
  ·rw[if_pos (by simp[hc.1,hc.2]),ae (by simp only[List.length_cons,List.length_nil];omega),ae (λ_=>⟨om,nu⟩),if_pos hc]
   by_cases MD:last=true/\r.last=true
   ·rw[if_pos (by simp[MD.1,MD.2]),if_pos MD]
    exact .inl ⟨_,rfl,rfl⟩
   ·rw[if_neg (by simpa using MD),if_neg MD,ae (by omega)]
    refine .inr ⟨_,rfl,by simp only[List.length_append,List.length_cons,List.length_nil];omega,rfl,?_⟩
    simp
  ·rw[if_neg (by simpa using hc),if_neg hc,ae (by omega)]
   exact .inr ⟨_,rfl,by simp only;omega,rfl,rfl⟩
theorem Nq (l:O aa) (zT:O Int) (hl:l.length<=100000) (ha:zT.length<=100000):oM l zT=some (lx 0 zT l):=by
 unfold oM
 refine (bL l (λs:O aa×O aa×Int×Int=>s.2.2.2) (λs t=>some (s.1++(lx s.2.2.2 (zT.drop s.2.2.1.toNat) t).1,s.2.1++(lx s.2.2.2 (zT.drop s.2.2.1.toNat) t).2))
  (λs t=>(0<=s.2.2.1/\s.2.2.1<=(zT.length:Int))/\(s.1.length:Int)<=s.2.2.2/\(s.2.1.length:Int)<=s.2.2.2) (by omega) ?_ ?_ rfl (by simp)).trans (by simp)
 ·rintro ⟨out,rest,k,i⟩ ⟨h0,h1⟩ hi
  simp only at h0 h1 hi ⊢
  unfold mw
  rw[if_neg (by simp only[decide_eq_true_eq];omega)]
  exact ⟨_,rfl,by cases zT.drop k.toNat<;>simp[lx]⟩
 ·rintro ⟨out,rest,k,i⟩ r t ⟨h0,h1,h2⟩ om nu hn hlen
  simp only at h0 h1 h2 om nu hn hlen ⊢
  unfold mw
  rw[if_pos (by simpa using nu),ae (λh=>by simp at h;omega),ae ⟨om,nu⟩,hn]
  by_cases hk:k<(zT.length:Int)
  ·have hd:=cR (l:=zT) (k:=k.toNat) (by omega)
   rw[hd]
   by_cases he:nth zT k.toNat=i
   ·rw[if_pos (by simp[he,hk]),ae (by simp only[List.length_cons,List.length_nil];omega),ae (by omega),ae (by omega)]
    refine .inr ⟨_,rfl,⟨by simp only;omega,by simp only[List.length_append,List.length_cons,List.length_nil];omega,by simp only;omega⟩,rfl,?_⟩
    simp only
    conv=>rhs;unfold lx
    rw[if_pos he,show (k+1).toNat=k.toNat+1 from by omega]
    simp
   ·rw[if_neg (by simp[he]),ae ⟨om,nu⟩,ae (by simp only[List.length_cons,List.length_nil];omega),ae (by omega)]
    refine .inr ⟨_,rfl,⟨by simp only;omega,by simp only;omega,by simp only[List.length_append,List.length_cons,List.length_nil];omega⟩,rfl,?_⟩
    simp only
    rw[hd]
    conv=>rhs;unfold lx
    rw[if_neg he]
    simp
  ·rw[if_neg (by simp[hk]),ae ⟨om,nu⟩,ae (by simp only[List.length_cons,List.length_nil];omega),ae (by omega)]
   refine .inr ⟨_,rfl,⟨by simp only;omega,by simp only;omega,by simp only[List.length_append,List.length_cons,List.length_nil];omega⟩,rfl,?_⟩
   simp only
   rw[List.drop_of_length_le (by omega),qz,qz]
   simp
theorem zj (last:Bool) (x:aa):∀ (n i:Int) (l:O aa),(tp last x n i l).length<=l.length
 | _,_,[]=>Nat.le_refl _
 | n,i,r::l=>by
  have h1:=zj last x (n+1) (i+1) l
  have h2:=zj last x n (i+1) l
  unfold tp
  split
  ·split<;>simp only[List.length_cons,List.length_nil]<;>omega
  ·simp only[List.length_cons];omega
theorem Lg {last:Bool} {x:aa} {n:Int} {l:O aa} (h:∀ r,r∈l->Sm r):(∀ r,r∈(oY last x n l).1->Sm r)/\(∀ r,r∈(oY last x n l).2->Sm r):=by
 have hp:=sL last x n l
 exact ⟨λr hr=>h r (hp.mem_iff.1 (List.mem_append.2 (.inl hr))),λr hr=>h r (hp.mem_iff.1 (List.mem_append.2 (.inr hr)))⟩
theorem te {α:Type} [Inhabited α] {l:O α} {k:Nat} (h:k<l.length):nth l k∈l:=by rw[eE h];exact List.getElem_mem h
theorem mC {α:Type} [Inhabited α] {a:α} {t:O α} {j:Nat}:nth (a::t) (j+1)=nth t j:=by simp[nth]
theorem mD {α:Type} [Inhabited α] {a:α} {t:O α}:nth (a::t) 0=a:=by simp[nth]
theorem IU (a b:aa):kZ a b=some (decide (Lt a b)):=by
 unfold kZ
 by_cases h1:a.source=b.source
 ·rw[if_neg (by simp[h1])]
  by_cases h2:a.call=b.call
  ·rw[if_neg (by simp[h2])]
   congr 1
   rw[Bool.eq_iff_iff,decide_eq_true_iff,decide_eq_true_iff]
   unfold Lt;omega
  ·rw[if_pos (by simpa using h2)]
   congr 1
   rw[Bool.eq_iff_iff,decide_eq_true_iff,decide_eq_true_iff]
   unfold Lt;omega
 ·rw[if_pos (by simpa using h1)]
  congr 1
  rw[Bool.eq_iff_iff,decide_eq_true_iff,decide_eq_true_iff]
  unfold Lt;omega
theorem uw (x:aa):∀ (m m':Nat) (now:O aa),now.length<m->now.length<m'->eK m now x=eK m' now x
 | 0,_,_,h,_=>by omega
 | _,0,_,_,h=>by omega
 | m+1,m'+1,now,h,h'=>by
  unfold eK
  cases hc:mi (oY true x 1 now).1 with
  | none=>rfl
  | some w =>
   have hl:=xu (last:=true) (x:=x) (n:=1) (l:=now)
   have hp:0<(oY true x 1 now).1.length:=List.length_pos_iff.2 (qx hc)
   simp only[uw x m m' (oY true x 1 now).2 (by omega) (by omega)]
theorem Bd (x:aa):∀ (m:Nat) (now:O aa),(eK m now x).1.length+(eK m now x).2.length<=now.length
 | 0,now=>by simp[eK]
 | m+1,now=>by
  unfold eK
  split
  ·simp
  ·rename_i w hc
   have hl:=xu (last:=true) (x:=x) (n:=1) (l:=now)
   have hp:0<(oY true x 1 now).1.length:=List.length_pos_iff.2 (qx hc)
   have ih:=Bd x m (oY true x 1 now).2
   simp only[List.length_cons]
   omega
structure Wt (l:O aa):Prop where
 IQ:Tm l
 ok:∀ r,r∈l->cr r=0
theorem Wt.sm {l:O aa} (h:Wt l):∀ r,r∈l->Sm r:=λr hr=>xw (h.ok r hr)
theorem O5.wt {l:O aa} (h:O5 l):Wt l:=⟨h.IQ,λr hr=>(h.ok r hr).1⟩
theorem Wt.ins {l:O aa} (h:Wt l) {p:aa} (hp:cr p=0):Wt (m6 l p):=⟨zf h.IQ,λr hr=>by
 rcases qw.1 hr with e|hr
 ·rw[e];exact hp
 ·exact h.ok r hr⟩
theorem wi (x:aa):∀ (m:Nat) (now:O aa),(eK m now x).2.Sublist now
 | 0,now=>List.Sublist.refl _
 | m+1,now=>by
  unfold eK
  split
  ·exact List.Sublist.refl _
  ·exact (wi x m _).trans (xt _ _ _ _)
theorem Be (l:O aa) (p:aa):(ic l p).1.length+(ic l p).2.length<=l.length+1:=by
 unfold ic
 split
 ·simp;omega
 ·have:=Bd p (l.length+2) (m6 l p)
  rw[ze] at this
  exact this
theorem IV (l:O aa) (p:aa) (hl:l.length<=100000):lf l p=some (m6 l p):=by
 unfold lf
 refine (bL l (λs:O aa×Bool×Int=>s.2.2) (λs t=>some (s.1++if s.2.1=true then t else m6 t p)) (λs t=>(s.1.length:Int)=s.2.2+if s.2.1=true then 1 else 0) (by omega) ?_ ?_ (s:=(([]:O aa),false,(0:Int))) rfl (by simp)).trans (by simp)
 ·rintro ⟨o,d,i⟩ h hi
  simp only at h hi ⊢
  have hb:(o.length:Int)<=i+1:=by rw[h];split<;>omega
  unfold jU gK
  rw[if_neg (by simp only[decide_eq_true_eq];omega)]
  cases d
  ·simp only[Bool.not_false,if_true,Bool.false_eq_true,if_false]
   rw[ae (by simp only[List.length_cons,List.length_nil];omega)]
   exact ⟨_,rfl,by simp[m6]⟩
  ·exact ⟨_,rfl,by simp⟩
 ·rintro ⟨o,d,i⟩ r t h om nu hn hlen
  simp only at h om nu hn hlen ⊢
  have hb:(o.length:Int)<=i+1:=by rw[h];split<;>omega
  unfold jU fk
  rw[if_pos (by simpa using nu),ae (λ_=>⟨om,nu⟩),hn]
  cases d
  ·simp only[Bool.not_false,eG,if_true,IU,Option.bind_some,Bool.true_and,Bool.false_eq_true,if_false]
   by_cases cd:Lt p r
   ·rw[if_pos (by simpa using cd),ae (by simp only[List.length_cons,List.length_nil];omega),ae ⟨om,nu⟩,ae (by simp only[List.length_append,List.length_cons,List.length_nil];omega),ae (by omega)]
    refine .inr ⟨_,rfl,?_,rfl,?_⟩
    ·simp only[Bool.false_eq_true,if_false] at h
     simp only[List.length_append,List.length_cons,List.length_nil,if_true];omega
    ·simp[m6,cd]
   ·rw[if_neg (by simpa using cd),ae ⟨om,nu⟩,ae (by simp only[List.length_cons,List.length_nil];omega),ae (by omega)]
    refine .inr ⟨_,rfl,?_,rfl,?_⟩
    ·simp only[List.length_append,List.length_cons,List.length_nil];omega
    ·simp[m6,cd]
  ·simp only[Bool.not_true,eG,Bool.false_eq_true,if_false,Option.bind_some,Bool.false_and,if_true]
   rw[ae ⟨om,nu⟩,ae (by simp only[List.length_cons,List.length_nil];omega),ae (by omega)]
   refine .inr ⟨_,rfl,?_,rfl,?_⟩
   ·simp only[List.length_append,List.length_cons,List.length_nil,if_true] at h ⊢;omega
   ·simp
theorem Cr (v:O aa) (i:Int) (r:aa) (hn:nth v i.toNat=r) (om:0<=i) (nu:i<(v.length:Int)) (now out:O aa) (hs:∀ r,r∈now->Sm r) (hl:now.length+out.length<=100000) (hv:v.length<=100000) :
  loop (λs:O aa×O aa=>mx v i s.1 s.2) (out,now)=some (.inl (out++(eK (now.length+1) now r).1,(eK (now.length+1) now r).2,i+1)):=by
 refine cy (λs:O aa×O aa=>(some (Sum.inl (s.1++(eK (s.2.length+1) s.2 r).1,(eK (s.2.length+1) s.2 r).2,i+1)):J ((O aa×O aa×Int) ⊕ (O aa×O aa)))) (λs=>(∀ r,r∈s.2->Sm r)/\s.2.length+s.1.length<=100000) (λs=>s.2.length) ?_ ⟨hs,hl⟩ (by simp only;omega)
 rintro ⟨o,l⟩ ⟨hw,hb⟩
 simp only at hw hb ⊢
 unfold mx
 rw[ae ⟨om,nu⟩,hn,Lf l r true (by omega)]
 have Sc:=zj true r 1 0 l
 simp only[Option.bind_some]
 rw[Nq l _ (by omega) (by omega),uv]
 have AB:=xu (last:=true) (x:=r) (n:=1) (l:=l)
 simp only[Option.bind_some]
 rw[Ep _ (Lg hw).1 (by omega)]
 simp only[Option.bind_some]
 cases hc:mi (oY true r 1 l).1 with
 | none =>
  simp only[Cq,Ue,Bool.not_false,if_true]
  rw[ae (by omega)]
  refine .inl ⟨_,rfl,?_⟩
  have:eK (l.length+1) l r=([],l):=by unfold eK;rw[hc]
  rw[this,List.append_nil]
 | some w =>
  have hp:0<(oY true r 1 l).1.length:=List.length_pos_iff.2 (qx hc)
  simp only[Cq,Bool.not_true,Bool.false_eq_true,if_false]
  rw[ae (by simp only[List.length_cons,List.length_nil];omega)]
  refine .inr ⟨_,rfl,⟨(Lg hw).2,by simp only[List.length_append,List.length_cons,List.length_nil];omega⟩,by simp only;omega,?_⟩
  have:eK (l.length+1) l r=(w::(eK l.length (oY true r 1 l).2 r).1,(eK l.length (oY true r 1 l).2 r).2):=by
   conv=>lhs;unfold eK
   rw[hc]
  simp only
  rw[this,uw r ((oY true r 1 l).2.length+1) l.length _ (by omega) (by omega)]
  simp
theorem Lh {now:O aa} {r:aa} (hs:∀ r,r∈now->Sm r) (hr:Sm r):∀ y,y∈(ic now r).2->Sm y:=by
 unfold ic
 split
 ·exact hs
 ·intro y hy
  rcases qw.1 ((wi _ _ _).subset hy) with e|hy
  ·rw[e];exact hr
  ·exact hs y hy
theorem Nr (now l:O aa) (h:∀ r,r∈now->Sm r) (hv:∀ r,r∈l->Sm r) (hl:now.length+l.length<=100000):oN now l=some (eL now l):=by
 unfold oN
 rw[ae (by omega)]
 refine (bL l (λs:O aa×O aa×Int=>s.2.2) (λs t=>some (s.1++(eL s.2.1 t).1,(eL s.2.1 t).2)) (λs t=>(∀ r,r∈s.2.1->Sm r)/\(∀ r,r∈t->Sm r)/\s.2.1.length+s.1.length+t.length<=100000) (by omega) ?_ ?_ (s:=(([]:O aa),now,(0:Int))) rfl ⟨h,hv,by simp only[List.length_nil];omega⟩).trans (by simp)
 ·rintro ⟨o,w,i⟩ ⟨h1,h2,h3⟩ hi
  simp only at h1 h2 h3 hi ⊢
  unfold my
  rw[if_neg (by simp only[decide_eq_true_eq];omega)]
  exact ⟨_,rfl,by simp[eL]⟩
 ·rintro ⟨o,w,i⟩ r t ⟨h1,h2,h3⟩ om nu hn hlen
  simp only at h1 h2 h3 om nu hn hlen ⊢
  simp only[List.length_cons] at h3
  have hr:=h2 r (List.mem_cons_self ..)
  have ht:∀ r,r∈t->Sm r:=λy hy=>h2 y (List.mem_cons_of_mem _ hy)
  unfold my
  rw[if_pos (by simpa using nu),ae ⟨om,nu⟩,hn]
  by_cases hp:r.part=0
  ·rw[if_pos (by simpa using hp),ae ⟨om,nu⟩,ae (by simp only[List.length_cons,List.length_nil];omega),ae (by omega)]
   refine .inr ⟨_,rfl,⟨h1,ht,by simp only[List.length_append,List.length_cons,List.length_nil];omega⟩,rfl,?_⟩
   simp only[eL,ic,hp,if_true]
   simp
  ·have es:ic w r=eK (w.length+2) (m6 w r) r:=by unfold ic;rw[if_neg hp]
   have lA:=ze w r
   rw[if_neg (by simpa using hp),ae ⟨om,nu⟩,IV w r (by omega)]
   simp only[Option.bind_some]
   rw[Cr l i r hn om nu (m6 w r) o (λy hy=>by
    rcases qw.1 hy with e|hy
    ·rw[e];exact hr
    ·exact h1 y hy) (by omega) (by omega),uw r ((m6 w r).length+1) (w.length+2) _ (by omega) (by omega),←es]
   have GZ:=Be w r
   refine .inr ⟨_,rfl,⟨Lh h1 hr,ht,by simp only[List.length_append];omega⟩,rfl,?_⟩
   simp only[eL]
   simp
def pr (s:Int):Int->List Head->Int
 | k,[]=>k
 | k,h::t=>pr s (if h.source=s then h.number+1 else k) t
def QT (h:Head):Prop:=-9223372036854775808<=h.number/\h.number<=9223372036854775806
theorem Ns (l:O Head) (n:Nat) (s:Int) (hn:n<=l.length) (hl:l.length<=10000000) (vJ:∀ h,h∈l.take n->QT h):oK l (n:Int) s=some (pr s 1 (l.take n)):=by
 unfold oK
 have dO:(l.take n).length=n:=by rw[List.length_take];omega
 refine bL (l.take n) (λst:Int×Int=>st.2) (λst t=>some (pr s st.1 t)) (λst t=>∀ h,h∈t->QT h) (by omega) ?_ ?_ (s:=((1:Int),(0:Int))) rfl vJ
 ·rintro ⟨k,i⟩ _ hi
  simp only at hi ⊢
  unfold mv
  rw[if_neg (by simp only[decide_eq_true_eq];omega)]
  exact ⟨_,rfl,rfl⟩
 ·rintro ⟨k,i⟩ h t ht om nu hx hlen
  simp only at ht om nu hx hlen ⊢
  have g4:nth l i.toNat=h:=by
   rw[←hx,eE (by omega),eE (by omega),List.getElem_take]
  have:=ht h (List.mem_cons_self ..)
  unfold QT at this
  unfold mv
  rw[if_pos (by simp only[decide_eq_true_eq];omega),ae (by omega),g4]
  by_cases hs:h.source=s
  ·rw[if_pos (by simpa using hs),ae (by omega),ae (by omega),ae (by omega)]
   refine .inr ⟨_,rfl,λx hx=>ht x (List.mem_cons_of_mem _ hx),rfl,?_⟩
   simp only[pr,hs,if_true]
  ·rw[if_neg (by simpa using hs),ae (by omega)]
   refine .inr ⟨_,rfl,λx hx=>ht x (List.mem_cons_of_mem _ hx),rfl,?_⟩
   simp only[pr,hs,if_false]
def Gg (h:Head):Prop:=(1<=h.source/\h.source<=99)/\(1<=h.number/\h.number<=999999999)/\(1<=h.format/\h.format<=3)/\(0<=h.count/\h.count<=4096)
instance (h:Head):Decidable (Gg h):=by unfold Gg;infer_instance
def O6:List Head->List Head->Bool
 | _,[]=>true
 | d,h::t=>decide (Gg h/\h.number=pr h.source 1 d) && O6 (d++[h]) t
theorem Nt {h:Head} (o:Gg h):QT h:=by unfold Gg at o;unfold QT;omega
theorem Gh:∀ {d l:O Head},O6 d l=true->∀ h,h∈l->Gg h
 | _,[],_,h,hm=>by cases hm
 | d,x::l,hb,h,hm=>by
  simp only[O6,Bool.and_eq_true,decide_eq_true_eq] at hb
  rcases List.mem_cons.1 hm with rfl|hm
  ·exact hb.1.1
  ·exact Gh hb.2 h hm
def tq (r:Range):Prop:=(1<=r.source/\r.source<=99)/\1<=r.from_/\r.from_<=r.qZ/\r.qZ<=999999999
instance (r:Range):Decidable (tq r):=by unfold tq;infer_instance
def zU (p r:Range):Prop:=p.source<r.source∨(p.source=r.source/\p.qZ+1<r.from_)
instance (p r:Range):Decidable (zU p r):=by unfold zU;infer_instance
structure Can (l:O Range):Prop where
 ok:∀ r,r∈l->tq r
 IQ:l.Pairwise zU
theorem Bf (s n:Int):((((decide (s>=1)) && (decide (s<=99))) && (decide (n>=1))) && (decide (n<=999999999)))=decide ((1<=s/\s<=99)/\1<=n/\n<=999999999):=by
 rw[Bool.eq_iff_iff,decide_eq_true_iff];simp;omega
def hasB (l:O Range) (s n:Int):Bool:=l.any λr=>decide (r.source=s/\r.from_<=n/\n<=r.qZ)
def Fs (s n:Int):Bool:=decide ((1<=s/\s<=99)/\1<=n/\n<=999999999)
theorem QU (l:O Range) (s n:Int) (hl:l.length<=10000000):qh l s n=some (hasB l s n && Fs s n):=by
 unfold qh
 refine bL l (λst:Int=>st) (λst t=>some (hasB t s n && Fs s n)) (λst t=>True) (by omega) ?_ ?_ rfl trivial
 ·intro i _ hi
  unfold nI
  rw[if_neg (by simp only[decide_eq_true_eq];omega)]
  exact ⟨_,rfl,by simp[hasB]⟩
 ·intro i r t _ om nu hx hlen
  unfold nI
  rw[if_pos (by simpa using nu),ae ⟨om,nu⟩,ae (λ_=>⟨om,nu⟩),ae (λ_=>⟨om,nu⟩),hx]
  by_cases h:r.source=s/\r.from_<=n/\n<=r.qZ
  ·rw[if_pos (by simp[h.1,h.2.1,h.2.2])]
   simp only[fU,Bf,Option.bind_some]
   exact .inl ⟨_,rfl,by simp[hasB,h,Fs]⟩
  ·rw[if_neg (by simp only[Bool.and_eq_true,beq_iff_eq,decide_eq_true_eq];exact λhh=>h ⟨hh.1.1,hh.1.2,hh.2⟩),ae (by omega)]
   refine .inr ⟨_,rfl,trivial,rfl,?_⟩
   unfold hasB
   rw[List.any_cons,decide_eq_false h,Bool.false_or]
def tu (s:Int):List Range->Int
 | []=>0
 | r::t=>(if r.source=s then r.qZ-r.from_+1 else 0)+tu s t
def Er (s:Int):List Head->Int
 | []=>0
 | h::t=>(if h.source=s then h.count else 0)+Er s t
def Tp (l:List Range) (hs:List Head):Nat->Int->Bool
 | 0,_=>true
 | m+1,s=>decide (tu s l<=Er s hs) && Tp l hs m (s+1)
def Gi (a b:aa):Bool:=decide (a.source=b.source) && decide (a.aF=b.aF)
def RB (l:List Range):List aa->List aa->Bool
 | _,[]=>true
 | d,r::t=>(hasB l r.source r.aF && Fs r.source r.aF) && !(d.any λx=>Gi x r) && RB l (d++[r]) t
structure XG (v:bE):Prop where
 seen:v.seen.length<=100000
 aX:v.aX.length<=100000
 opens:v.open_.length<=100000
 sm:∀ r,r∈v.open_->Sm r
structure ux (v:bE):Prop where
 aX:O6 [] v.aX=true
 can:Can v.seen
 Uf:O5 v.open_
 zQ:Tp v.seen v.aX 99 1=true
 ids:RB v.seen [] v.open_=true
theorem Nu (v:bE) (s:Int) (hl:v.aX.length<=10000000) (vJ:∀ h,h∈v.aX->QT h):oL v s=some (if 1<=s/\s<=99 then pr s 1 v.aX else 0):=by
 unfold oL
 by_cases hs:1<=s/\s<=99
 ·have:=Ns v.aX v.aX.length s (Nat.le_refl _) hl (by rw[List.take_length];exact vJ)
  rw[List.take_length] at this
  rw[if_neg (by simp;omega),if_pos hs,this];rfl
 ·rw[if_pos (by simp;omega),if_neg hs]
theorem Head.eq_iff (a b:Head):jy a.j6 b.j6=true↔a=b:=by cases a;cases b;simp[Head.j6,jy,PS]
theorem aa.eq_iff (a b:aa):jy a.j6 b.j6=true↔a=b:=by cases a;cases b;simp[aa.j6,jy,PS]
theorem Bg (s:Int):∀ (l:O Head) (h:Head),Er s (l++[h])=Er s l+(if h.source=s then h.count else 0)
 | [],h=>by simp[Er]
 | x::l,h=>by simp only[List.cons_append,Er,Bg s l h];omega
def PL (s n:Int) (r:Range):Prop:=r.source > s∨(r.source=s/\r.qZ>=n)
instance (s n:Int) (r:Range):Decidable (PL s n r):=by unfold PL;infer_instance
theorem Cs {s n:Int} {a b:Range} (h:zU a b) (hb:tq b) (hp:PL s n a):PL s n b:=by
 unfold PL zU tq at *;omega
theorem Nv:O5 []:=⟨List.Pairwise.nil,by simp,λx=>by simp[oY,zg]⟩
instance:DecidableEq aa:=λa b=>decidable_of_iff _ (aa.eq_iff a b)
theorem xx (l:O Range) (hs:O Head):∀ (m:Nat) (s:Int),Tp l hs m s=true↔∀ k:Int,s<=k->k<s+m->tu k l<=Er k hs
 | 0,s=>by simp only[Tp,true_iff];intro k h1 h2;omega
 | m+1,s=>by
  rw[Tp,Bool.and_eq_true,decide_eq_true_iff,xx l hs m (s+1)]
  constructor
  ·rintro ⟨h1,h2⟩ k h3 h4
   by_cases e:k=s
   ·subst e;exact h1
   ·exact h2 k (by omega) (by omega)
  ·intro h
   exact ⟨h s (by omega) (by omega),λk h3 h4=>h k (by omega) (by omega)⟩
def TL (s n:Int) (r:Range):Prop:=r.source=s/\r.qZ+1=n
def TR (s n:Int) (r:Range):Prop:=r.source=s/\r.from_-1=n
instance (s n:Int) (r:Range):Decidable (TL s n r):=by unfold TL;infer_instance
instance (s n:Int) (r:Range):Decidable (TR s n r):=by unfold TR;infer_instance
def dA (s n:Int) (out:List Range) (done:Bool) (f t:Int):List Range->List Range
 | []=>if done=true then out else out++[⟨s,f,t⟩]
 | r::l=>if TL s n r then dA s n out done r.from_ t l
  else if TR s n r then dA s n out done f r.qZ l
  else if done=true∨¬PL s n r then dA s n (out++[r]) done f t l
  else dA s n (out++[⟨s,f,t⟩,r]) true f t l
def oT (s n f:Int):List Range->List Range
 | []=>[⟨s,f,n⟩]
 | r::l=>if TR s n r then ⟨s,f,r.qZ⟩::l else ⟨s,f,n⟩::r::l
def iR (s n:Int):List Range->List Range
 | []=>[⟨s,n,n⟩]
 | r::l=>if PL s n r then oT s n n (r::l) else if TL s n r then oT s n r.from_ l else r::iR s n l
theorem Ct {s n f t:Int}:∀ {l out:O Range},(∀ r,r∈l->¬TL s n r/\¬TR s n r)->dA s n out true f t l=out++l
 | [],out,_=>by simp[dA]
 | r::l,out,h=>by
  have hr:=h r (List.mem_cons_self ..)
  rw[dA,if_neg hr.1,if_neg hr.2,if_pos (.inl rfl),Ct (λx hx=>h x (List.mem_cons_of_mem _ hx))]
  simp
theorem Nw {s n f t:Int} {l out:O Range} (h:∀ r,r∈l->PL s n r/\¬TL s n r/\¬TR s n r):dA s n out false f t l=out++⟨s,f,t⟩::l:=by
 cases l with
 | nil=>simp[dA]
 | cons r l =>
  have hr:=h r (List.mem_cons_self ..)
  rw[dA,if_neg hr.2.1,if_neg hr.2.2,if_neg (by simp[hr.1]),Ct (λx hx=>(h x (List.mem_cons_of_mem _ hx)).2)]
  simp
theorem Tq {s n f:Int} {l out:O Range} (hc:Can l) (h:∀ r,r∈l->PL s n r) (hh:hasB l s n=false):dA s n out false f n l=out++oT s n f l:=by
 cases l with
 | nil=>simp[dA,oT]
 | cons r l =>
  have hr:=h r (List.mem_cons_self ..)
  have ho:=hc.ok r (List.mem_cons_self ..)
  have hs:=List.pairwise_cons.1 hc.IQ
  have hn:¬(r.source=s/\r.from_<=n/\n<=r.qZ):=by
   have:=List.any_eq_false.1 hh r (List.mem_cons_self ..)
   simpa using this
  have h1:¬TL s n r:=by unfold TL;unfold PL at hr;omega
  have h2:∀ x,x∈l->PL s n x/\¬TL s n x/\¬TR s n x:=λx hx=>by
   have h3:=hs.1 x hx
   have h4:=h x (List.mem_cons_of_mem _ hx)
   have h5:=hc.ok x (List.mem_cons_of_mem _ hx)
   refine ⟨h4,?_,?_⟩
   ·unfold TL;unfold PL at h4;omega
   ·unfold TR;unfold zU at h3;unfold tq at ho;unfold PL at hr;omega
  rw[dA,if_neg h1,oT]
  by_cases h3:TR s n r
  ·rw[if_pos h3,if_pos h3,Nw h2]
  ·rw[if_neg h3,if_neg h3,if_neg (by simp[hr]),Ct (λx hx=>(h2 x hx).2)]
   simp
theorem Can.tail {r:Range} {l:O Range} (h:Can (r::l)):Can l:=⟨λx hx=>h.ok x (List.mem_cons_of_mem _ hx),(List.pairwise_cons.1 h.IQ).2⟩
theorem qA {r:Range} {l:O Range} {s n:Int} (h:hasB (r::l) s n=false):hasB l s n=false:=by
 unfold hasB at *
 rw[List.any_cons,Bool.or_eq_false_iff] at h
 exact h.2
theorem Li {s n:Int}:∀ {l out:O Range},Can l->hasB l s n=false->dA s n out false n n l=out++iR s n l
 | [],out,_,_=>by simp[dA,iR]
 | r::l,out,hc,hh=>by
  have ho:=hc.ok r (List.mem_cons_self ..)
  have hs:=List.pairwise_cons.1 hc.IQ
  by_cases hp:PL s n r
  ·rw[iR,if_pos hp]
   exact Tq hc (λx hx=>by
    rcases List.mem_cons.1 hx with rfl|hx
    ·exact hp
    ·exact Cs (hs.1 x hx) (hc.ok x (List.mem_cons_of_mem _ hx)) hp) hh
  ·rw[iR,if_neg hp,dA]
   by_cases h1:TL s n r
   ·rw[if_pos h1,if_pos h1]
    exact Tq hc.tail (λx hx=>by
     have h3:=hs.1 x hx
     have h5:=hc.ok x (List.mem_cons_of_mem _ hx)
     unfold TL at h1;unfold zU at h3;unfold tq at h5;unfold PL;omega) (qA hh)
   ·rw[if_neg h1,if_neg h1,if_neg (by unfold TR;unfold PL at hp;unfold tq at ho;omega),if_pos (.inr hp),Li hc.tail (qA hh)]
    simp
theorem QV (l:O Range) (s n:Int) (hc:Can l) (hl:l.length<=10000000):qi l s n=some (if Fs s n=true/\hasB l s n=false then (iR s n l,true) else ([],false)):=by
 unfold qi
 simp only[fU,Bf,Option.bind_some,Bool.not_not]
 rw[show decide ((1<=s/\s<=99)/\1<=n/\n<=999999999)=Fs s n from rfl,QU l s n hl,qs]
 simp only[Option.bind_some]
 cases hi:Fs s n with
 | false=>simp
 | true =>
  cases hh:hasB l s n with
  | true=>simp
  | false =>
   rw[if_neg (by simp),if_pos ⟨rfl,rfl⟩]
   have hi':=of_decide_eq_true hi
   refine (bL l (λst:O Range×Bool×Int×Int×Int=>st.2.2.1) (λst t=>some (dA s n st.1 st.2.1 st.2.2.2.1 st.2.2.2.2 t,true)) (λst t=>st.1.length+2*t.length<=50000000/\∀ r,r∈t->tq r) (by omega) ?_ ?_ (s:=(([]:O Range),false,(0:Int),n,n)) rfl ⟨by simp;omega,hc.ok⟩).trans (by simp only;rw[Li hc hh];simp)
   ·rintro ⟨o,d,i,f,t⟩ ⟨hb,_⟩ hi
    simp only at hb hi ⊢
    unfold nJ kY
    rw[if_neg (by simp only[decide_eq_true_eq];omega)]
    cases d with
    | true=>exact ⟨_,rfl,by simp[dA]⟩
    | false =>
     rw[if_pos (by rfl),ae (by simp;simp at hb;omega)]
     exact ⟨_,rfl,by simp[dA]⟩
   ·rintro ⟨o,d,i,f,t⟩ r tl ⟨hb,hk⟩ om nu hx hlen
    simp only at hb hk om nu hx hlen ⊢
    simp only[List.length_cons] at hb
    have hr:=hk r (List.mem_cons_self ..)
    have CV:∀ x,x∈tl->tq x:=λx hx=>hk x (List.mem_cons_of_mem _ hx)
    unfold tq at hr
    unfold nJ
    rw[if_pos (by simpa using nu),ae ⟨om,nu⟩,hx,ae (λ_=>by omega),ae (λ_=>by omega)]
    rw[dA]
    by_cases h1:TL s n r
    ·have Bx:=h1
     unfold TL at Bx
     rw[if_pos (by simp[Bx.1,Bx.2]),if_pos h1,ae (by omega)]
     exact .inr ⟨_,rfl,⟨by simp only;omega,CV⟩,rfl,rfl⟩
    ·have Bx:=h1
     unfold TL at Bx
     rw[if_neg (by simpa using Bx),if_neg h1]
     by_cases h2:TR s n r
     ·have CX:=h2
      unfold TR at CX
      rw[if_pos (by simp[CX.1,CX.2]),if_pos h2,ae (by omega)]
      exact .inr ⟨_,rfl,⟨by simp only;omega,CV⟩,rfl,rfl⟩
     ·have CX:=h2
      unfold TR at CX
      rw[if_neg (by simpa using CX),if_neg h2]
      by_cases h3:d=true∨¬PL s n r
      ·rw[if_pos (by
        unfold PL at h3
        simp only[Bool.or_eq_true,Bool.and_eq_true,beq_iff_eq,decide_eq_true_eq]
        rcases h3 with h3|h3
        ·exact .inl (.inl h3)
        ·omega),if_pos h3,ae (by simp;omega),ae (by omega)]
       exact .inr ⟨_,rfl,⟨by simp;omega,CV⟩,rfl,rfl⟩
      ·rw[if_neg (by
        unfold PL at h3
        simp only[Bool.or_eq_true,Bool.and_eq_true,beq_iff_eq,decide_eq_true_eq]
        rintro ((h4|h4)|h4)
        ·exact h3 (.inl h4)
        ·exact h3 (.inr (by omega))
        ·exact h3 (.inr (by omega))),if_neg h3,ae (by simp;omega),ae (by omega)]
       exact .inr ⟨_,rfl,⟨by simp;omega,CV⟩,rfl,rfl⟩
def Cu (src:Int):List aa->Int
 | []=>0
 | r::l=>if cr r=0 then (if r.source=src then Cu src l else 8) else cr r
def Cv (s n f:Int):Int:=if (s<1∨99<s)∨(n<1∨999999999<n) then 6 else if f<1∨3<f then 7 else 0
def wj (b:Batch):Int:=if Cv b.source b.number b.format=0 then (if 4096<b.records.length then 5 else Cu b.source b.records) else Cv b.source b.number b.format
def Tr (l:O aa):Prop:=∀ r,r∈l->r.a.length<1000000000/\r.b.length<1000000000
theorem Tr.nth {l:O aa} (h:Tr l) {k:Nat} (hk:k<l.length):(Go.Abs.nth l k).a.length<1000000000/\(Go.Abs.nth l k).b.length<1000000000:=by
 rw[eE hk];exact h _ (List.getElem_mem hk)
theorem IW (b:Batch) (h:Tr b.records) (hl:b.records.length<=4096):loop (λs=>eX b s) 0=some (Cu b.source b.records):=by
 have:=cy (step:=λs=>eX b s) (λi:Int=>some (Cu b.source (b.records.drop i.toNat))) (λi=>0<=i/\i<=(b.records.length:Int)) (λi=>((b.records.length:Int) - i).toNat) (λi hI=>by
  obtain ⟨h0,h1⟩:=hI
  show (∃ r,eX b i=_/\_)∨∃ s',eX b i=_/\_
  unfold eX
  by_cases hi:i<(b.records.length:Int)
  ·have hd:=cR (l:=b.records) (k:=i.toNat) (by omega)
   have hs:=h.nth (k:=i.toNat) (by omega)
   rw[if_pos (by simpa using hi),ae ⟨h0,hi⟩,qt _ hs.1 hs.2,hd]
   generalize Go.Abs.nth b.records i.toNat=r at *
   simp only[Option.bind_some,Cu]
   by_cases he:cr r=0
   ·rw[if_neg (by simp[he]),if_pos he,ae ⟨h0,hi⟩]
    by_cases C4:r.source=b.source
    ·rw[if_neg (by simp[C4]),if_pos C4,ae (by omega)]
     refine .inr ⟨i+1,rfl,⟨by omega,by omega⟩,by omega,?_⟩
     rw[show (i+1).toNat=i.toNat+1 from by omega]
    ·rw[if_pos (by simpa using C4),if_neg C4]
     exact .inl ⟨_,rfl,rfl⟩
   ·rw[if_pos (by simpa using he),if_neg he]
    exact .inl ⟨_,rfl,rfl⟩
  ·rw[if_neg (by simpa using hi),List.drop_of_length_le (by omega)]
   exact .inl ⟨_,rfl,rfl⟩) (s:=0) ⟨by omega,by omega⟩ (by omega)
 simpa using this
theorem Cw (s n f:Int):iC s n f=some (Cv s n f):=by
 unfold iC Cv
 by_cases h1:(s<1∨99<s)∨(n<1∨999999999<n)
 ·rw[if_pos h1,if_pos (by simp;omega)]
 ·rw[if_neg h1,if_neg (by simp;omega)]
  by_cases h2:f<1∨3<f
  ·rw[if_pos h2,if_pos (by simp;omega)]
  ·rw[if_neg h2,if_neg (by simp;omega)]
theorem Nx (b:Batch) (h:Tr b.records):mV b=some (wj b):=by
 unfold mV wj
 simp only[Option.bind_some,Cw]
 by_cases h1:Cv b.source b.number b.format=0
 ·rw[if_neg (by simp[h1]),if_pos h1]
  by_cases h2:4096<b.records.length
  ·rw[if_pos (by simp;omega),if_pos h2]
  ·rw[if_neg (by simp;omega),if_neg h2]
   exact IW b h (by omega)
 ·rw[if_pos (by simpa using h1),if_neg h1]
theorem Hz {s:Int}:∀ {l:O aa},Cu s l=0->∀ r,r∈l->cr r=0
 | [],_,r,h=>by cases h
 | x::l,hc,r,h=>by
  rw[Cu] at hc
  by_cases he:cr x=0
  ·rw[if_pos he] at hc
   by_cases hs:x.source=s
   ·rw[if_pos hs] at hc
    rcases List.mem_cons.1 h with rfl|h
    ·exact he
    ·exact Hz hc r h
   ·rw[if_neg hs] at hc;omega
  ·rw[if_neg he] at hc;exact absurd hc he
theorem xy {b:Batch} (h:wj b=0):(1<=b.source/\b.source<=99)/\(1<=b.number/\b.number<=999999999)/\(1<=b.format/\b.format<=3)/\b.records.length<=4096/\∀ r,r∈b.records->cr r=0:=by
 unfold wj at h
 by_cases h1:Cv b.source b.number b.format=0
 ·rw[if_pos h1] at h
  by_cases h2:4096<b.records.length
  ·rw[if_pos h2] at h;omega
  ·rw[if_neg h2] at h
   unfold Cv at h1
   by_cases h3:(b.source<1∨99<b.source)∨(b.number<1∨999999999<b.number)
   ·rw[if_pos h3] at h1;omega
   ·rw[if_neg h3] at h1
    by_cases h4:b.format<1∨3<b.format
    ·rw[if_pos h4] at h1;omega
    ·exact ⟨by omega,by omega,by omega,by omega,Hz h⟩
 ·rw[if_neg h1] at h;exact absurd h h1
theorem Cx {r:aa} (h:cr r=0):Fs r.source r.aF=true:=by
 have g:=mf h
 have h1:=g.source
 have h2:=g.aF
 unfold Fs
 rw[decide_eq_true_iff]
 exact ⟨by omega,by omega⟩
theorem zk {s n f:Int} {l:O Range} (hc:Can l) (hi:Fs s n=true) (hf:1<=f/\f<=n) (h:∀ r,r∈l->PL s n r) (hh:hasB l s n=false):Can (oT s n f l)/\∀ p,tq p->(zU p ⟨s,f,n⟩)->(∀ r,r∈l->zU p r)->∀ x,x∈oT s n f l->zU p x:=by
 have hi':=of_decide_eq_true hi
 cases l with
 | nil =>
  refine ⟨⟨λx hx=>?_,by simp[oT]⟩,λp hp h1 h2 x hx=>?_⟩
  ·simp[oT] at hx;subst hx;unfold tq;simp only;omega
  ·simp[oT] at hx;subst hx;exact h1
 | cons r l =>
  have hr:=h r (List.mem_cons_self ..)
  have ho:=hc.ok r (List.mem_cons_self ..)
  have hs:=List.pairwise_cons.1 hc.IQ
  have hn:¬(r.source=s/\r.from_<=n/\n<=r.qZ):=by
   have:=List.any_eq_false.1 hh r (List.mem_cons_self ..)
   simpa using this
  rw[oT]
  by_cases h3:TR s n r
  ·rw[if_pos h3]
   unfold TR at h3
   have kj:=ho
   unfold tq at kj
   refine ⟨⟨λx hx=>?_,List.pairwise_cons.2 ⟨λx hx=>?_,hs.2⟩⟩,λp hp h1 h2 x hx=>?_⟩
   ·rcases List.mem_cons.1 hx with rfl|hx
    ·unfold tq;simp only;omega
    ·exact hc.ok x (List.mem_cons_of_mem _ hx)
   ·have:=hs.1 x hx
    unfold zU at this ⊢;simp only;omega
   ·rcases List.mem_cons.1 hx with rfl|hx
    ·unfold zU at h1 ⊢;simp only at h1 ⊢;omega
    ·exact h2 x (List.mem_cons_of_mem _ hx)
  ·rw[if_neg h3]
   unfold TR at h3
   have kj:=ho
   unfold tq at kj
   have cd:zU ⟨s,f,n⟩ r:=by
    unfold zU;unfold PL at hr;simp only;omega
   refine ⟨⟨λx hx=>?_,List.pairwise_cons.2 ⟨λx hx=>?_,hc.IQ⟩⟩,λp hp h1 h2 x hx=>?_⟩
   ·rcases List.mem_cons.1 hx with rfl|hx
    ·unfold tq;simp only;omega
    ·exact hc.ok x hx
   ·rcases List.mem_cons.1 hx with rfl|hx
    ·exact cd
    ·have:=hs.1 x hx
     unfold zU at this cd ⊢;simp only at cd ⊢;omega
   ·rcases List.mem_cons.1 hx with rfl|hx
    ·exact h1
    ·exact h2 x hx
theorem zl {s n:Int} (hi:Fs s n=true):∀ {l:O Range},Can l->hasB l s n=false->Can (iR s n l)/\∀ p,tq p->zU p ⟨s,n,n⟩->(∀ r,r∈l->zU p r)->∀ x,x∈iR s n l->zU p x
 | [],hc,hh=>zk hc hi (by have:=of_decide_eq_true hi;omega) (by simp) hh
 | r::l,hc,hh=>by
  have hi':=of_decide_eq_true hi
  have ho:=hc.ok r (List.mem_cons_self ..)
  have hs:=List.pairwise_cons.1 hc.IQ
  have kj:=ho
  unfold tq at kj
  by_cases hp:PL s n r
  ·rw[iR,if_pos hp]
   exact zk hc hi (by omega) (λx hx=>by
    rcases List.mem_cons.1 hx with rfl|hx
    ·exact hp
    ·exact Cs (hs.1 x hx) (hc.ok x (List.mem_cons_of_mem _ hx)) hp) hh
  ·rw[iR,if_neg hp]
   by_cases h1:TL s n r
   ·rw[if_pos h1]
    have Bx:=h1
    unfold TL at Bx
    have:=zk (f:=r.from_) hc.tail hi (by omega) (λx hx=>by
     have h3:=hs.1 x hx
     have h5:=hc.ok x (List.mem_cons_of_mem _ hx)
     unfold zU at h3;unfold tq at h5;unfold PL;omega) (qA hh)
    refine ⟨this.1,λp hq h2 h3 x hx=>this.2 p hq ?_ (λy hy=>h3 y (List.mem_cons_of_mem _ hy)) x hx⟩
    have:=h3 r (List.mem_cons_self ..)
    unfold zU at this ⊢;simp only;omega
   ·rw[if_neg h1]
    unfold TL at h1
    unfold PL at hp
    obtain ⟨k1,k2⟩:=zl hi hc.tail (qA hh)
    refine ⟨⟨λx hx=>?_,List.pairwise_cons.2 ⟨k2 r ho ?_ hs.1,k1.IQ⟩⟩,λp hq h2 h3 x hx=>?_⟩
    ·rcases List.mem_cons.1 hx with rfl|hx
     ·exact ho
     ·exact k1.ok x hx
    ·unfold zU;simp only;omega
    ·rcases List.mem_cons.1 hx with rfl|hx
     ·exact h3 x (List.mem_cons_self ..)
     ·exact k2 p hq h2 (λy hy=>h3 y (List.mem_cons_of_mem _ hy)) x hx
theorem Es (s n f:Int) (l:O Range):(oT s n f l).length<=l.length+1:=by
 cases l with
 | nil=>simp[oT]
 | cons r l=>rw[oT];split<;>simp
theorem zm (s n:Int):∀ (l:O Range),(iR s n l).length<=l.length+1
 | []=>by simp[iR]
 | r::l=>by
  have h1:=Es s n n (r::l)
  have h2:=Es s n r.from_ l
  have h3:=zm s n l
  rw[iR]
  split
  ·exact h1
  ·split
   ·simp only[List.length_cons];omega
   ·simp only[List.length_cons];omega
abbrev WG:=O Range×O aa×O aj
def CR (w:bJ) (r:aa):Prop:=¬(r.start<w.kt∨r.start > w.ra)
instance (w:bJ) (r:aa):Decidable (CR w r):=by unfold CR;infer_instance
def RC (r:aa) (i e:Int):aj:=⟨r.source,r.aF,i,e⟩
def dP (w:bJ):List Range->Int->List aa->WG
  | l,i,[]=>(l,[],[])
  | l,i,r::t =>
    if CR w r then
      (if hasB l r.source r.aF=false then ((dP w (iR r.source r.aF l) (i+1) t).1,r::(dP w (iR r.source r.aF l) (i+1) t).2.1,(dP w (iR r.source r.aF l) (i+1) t).2.2)
       else ((dP w l (i+1) t).1,(dP w l (i+1) t).2.1,RC r i 13::(dP w l (i+1) t).2.2))
    else ((dP w l (i+1) t).1,(dP w l (i+1) t).2.1,RC r i 15::(dP w l (i+1) t).2.2)
def gP:List Range->List (Int×aa)->WG
 | l,[]=>(l,[],[])
 | l,p::t =>
  if hasB l p.2.source p.2.aF=false then ((gP (iR p.2.source p.2.aF l) t).1,p.2::(gP (iR p.2.source p.2.aF l) t).2.1,(gP (iR p.2.source p.2.aF l) t).2.2)
  else ((gP l t).1,(gP l t).2.1,RC p.2 p.1 13::(gP l t).2.2)
def pW (w:bJ):Int->List aa->List (Int×aa)
 | i,[]=>[]
 | i,r::t=>if CR w r then (i,r)::pW w (i+1) t else pW w (i+1) t
def nW (w:bJ):Int->List aa->List aj
 | i,[]=>[]
 | i,r::t=>if CR w r then nW w (i+1) t else RC r i 15::nW w (i+1) t
theorem Et (w:bJ):∀ (t:O aa) (l:O Range) (i:Int),(dP w l i t).1=(gP l (pW w i t)).1/\(dP w l i t).2.1=(gP l (pW w i t)).2.1/\(dP w l i t).2.2.Perm (nW w i t++(gP l (pW w i t)).2.2)
 | [],l,i=>⟨rfl,rfl,List.Perm.refl _⟩
 | r::t,l,i=>by
  by_cases h:CR w r
  ·by_cases hh:hasB l r.source r.aF=false
   ·obtain ⟨a,b,c⟩:=Et w t (iR r.source r.aF l) (i+1)
    simp only[dP,pW,nW,gP,if_pos h,if_pos hh]
    exact ⟨a,by rw[b],c⟩
   ·obtain ⟨a,b,c⟩:=Et w t l (i+1)
    simp only[dP,pW,nW,gP,if_pos h,if_neg hh]
    exact ⟨a,b,(c.cons _).trans List.perm_middle.symm⟩
  ·obtain ⟨a,b,c⟩:=Et w t l (i+1)
   simp only[dP,pW,nW,if_neg h]
   exact ⟨a,b,c.cons _⟩
theorem Gj:∀ (ps:O (Int×aa)) (l:O Range),(gP l ps).2.1.length+(gP l ps).2.2.length=ps.length/\(gP l ps).1.length<=l.length+ps.length
 | [],l=>by simp[gP]
 | p::t,l=>by
  rw[gP]
  by_cases hh:hasB l p.2.source p.2.aF=false
  ·have:=Gj t (iR p.2.source p.2.aF l)
   have h2:=zm p.2.source p.2.aF l
   rw[if_pos hh];simp only[List.length_cons];omega
  ·have:=Gj t l
   rw[if_neg hh];simp only[List.length_cons];omega
theorem Lj (w:bJ):∀ (t:O aa) (i:Int),(pW w i t).length+(nW w i t).length=t.length
 | [],i=>rfl
 | r::t,i=>by
  have:=Lj w t (i+1)
  rw[pW,nW]
  by_cases h:CR w r
  ·rw[if_pos h,if_pos h];simp only[List.length_cons];omega
  ·rw[if_neg h,if_neg h];simp only[List.length_cons];omega
theorem Lk (w:bJ):∀ (t:O aa) (i:Int) (p:Int×aa),p∈pW w i t->i<=p.1/\p.1<i+t.length/\nth t (p.1-i).toNat=p.2/\p.2∈t
 | [],i,p,h=>by simp[pW] at h
 | r::t,i,p,h=>by
  have key:p∈pW w (i+1) t->i<=p.1/\p.1<i+(r::t).length/\nth (r::t) (p.1-i).toNat=p.2/\p.2∈r::t:=λh=>by
   obtain ⟨a,b,c,d⟩:=Lk w t (i+1) p h
   refine ⟨by omega,by simp only[List.length_cons];omega,?_,List.mem_cons_of_mem _ d⟩
   rw[show (p.1-i).toNat=(p.1-(i+1)).toNat+1 from by omega,mC];exact c
  rw[pW] at h
  by_cases hw:CR w r
  ·rw[if_pos hw] at h
   rcases List.mem_cons.1 h with rfl|h
   ·refine ⟨Int.le_refl _,by simp only[List.length_cons];omega,?_,List.mem_cons_self ..⟩
    rw[show (i-i).toNat=0 from by omega,mD]
   ·exact key h
  ·rw[if_neg hw] at h;exact key h
theorem Gk:∀ {ps:O (Int×aa)} {l:O Range} {r:aa},r∈(gP l ps).2.1->∃ p,p∈ps/\p.2=r
 | [],l,r,h=>by simp[gP] at h
 | p::t,l,r,h=>by
  rw[gP] at h
  by_cases hh:hasB l p.2.source p.2.aF=false
  ·rw[if_pos hh] at h
   rcases List.mem_cons.1 h with rfl|h
   ·exact ⟨p,List.mem_cons_self ..,rfl⟩
   ·obtain ⟨q,h1,h2⟩:=Gk h;exact ⟨q,List.mem_cons_of_mem _ h1,h2⟩
  ·rw[if_neg hh] at h
   obtain ⟨q,h1,h2⟩:=Gk h;exact ⟨q,List.mem_cons_of_mem _ h1,h2⟩
theorem rz:∀ (now l:O aa),(eL now l).1.length+(eL now l).2.length<=now.length+l.length
 | now,[]=>by simp[eL]
 | now,r::l=>by
  have h1:=Be now r
  have h2:=rz (ic now r).2 l
  simp only[eL,List.length_cons,List.length_append]
  omega
theorem Ts (r:aa) (w:bJ):jh r w=some (if CR w r then 0 else 15):=by
 unfold jh
 by_cases h:CR w r
 ·rw[if_pos h,if_neg (by unfold CR at h;simpa using h)]
 ·rw[if_neg h,if_pos (by unfold CR at h;have h':=Decidable.not_not.1 h;simpa using h')]
theorem QW (r:aa) (w:bJ):jh r w=some (if CR w r then 0 else 15):=Ts r w
abbrev WH:=bE×(O aa)×(O aj)×Int
def Ug:bE:=⟨([]:O Range),([]:O aa),([]:O Head)⟩
def wk (v:bE) (b:Batch) (w:bJ):WH:=((⟨(dP w v.seen 0 b.records).1,(eL v.open_ (dP w v.seen 0 b.records).2.1).2,v.aX++[(⟨b.source,b.number,b.format,(b.records.length:Int)⟩:Head)]⟩:bE),(eL v.open_ (dP w v.seen 0 b.records).2.1).1,(dP w v.seen 0 b.records).2.2,0)
def jN (v:bE) (b:Batch) (w:bJ):WH:=if wj b=0 then (if b.number=pr b.source 1 v.aX then wk v b w else (Ug,[],[],20)) else (Ug,[],[],wj b)
structure JC (v:bE) (b:Batch):Prop where
 pI:ux v
 seen:v.seen.length<=60000
 aX:v.aX.length<=60000
 opens:v.open_.length<=60000
 sM:b.records.length<=10000
 sm:∀ r,r∈b.records->Sm r
theorem JC.XH {v:bE} {b:Batch} (h:JC v b):Tr b.records:=λr hr=>by
 have:=h.sm r hr
 unfold Sm at this
 omega
theorem JC.XI {v:bE} {b:Batch} (h:JC v b):∀ x,x∈v.aX->QT x:=λx hx=>Nt (Gh h.pI.aX x hx)
theorem Cy {w:bJ} {l:O Range} {t:O aa} {i:Int} {r:aa} (h:r∈(dP w l i t).2.1):r∈t:=by
 rw[(Et w t l i).2.1] at h
 obtain ⟨p,h1,h2⟩:=Gk h
 have:=(Lk w t i p h1).2.2.2
 rwa [h2] at this
theorem Cz (w:bJ) (l:O Range) (t:O aa) (i:Int):(dP w l i t).2.1.length+(dP w l i t).2.2.length<=t.length/\(dP w l i t).1.length<=l.length+t.length:=by
 obtain ⟨a,b,c⟩:=Et w t l i
 have h1:=Gj (pW w i t) l
 have h2:=Lj w t i
 have h3:=c.length_eq
 rw[List.length_append] at h3
 rw[a,b,h3]
 omega
theorem IX (v:bE) (b:Batch) (w:bJ) (h:JC v b):lj v b w=some (jN v b w):=by
 have hs:=h.seen
 have hh:=h.aX
 have ho:=h.opens
 have hr:=h.sM
 unfold lj jN
 rw[Nx b h.XH,Option.bind_some]
 by_cases hc:wj b=0
 ·obtain ⟨k1,k2,k3,k4,k5⟩:=xy hc
  rw[if_neg (by simp[hc]),if_pos hc,Nu v _ (by omega) h.XI,Option.bind_some,if_pos k1]
  by_cases hn:b.number=pr b.source 1 v.aX
  ·rw[if_neg (by simp[hn]),if_pos hn,ae (by omega)]
   refine bL b.records (λst:O Range×O aa×O aj×Int=>st.2.2.2) (λst t=>some (wk v b w)) (λst t=>((dP w st.1 st.2.2.2 t).1=(dP w v.seen 0 b.records).1/\st.2.1++(dP w st.1 st.2.2.2 t).2.1=(dP w v.seen 0 b.records).2.1/\st.2.2.1++(dP w st.1 st.2.2.2 t).2.2=(dP w v.seen 0 b.records).2.2)/\Can st.1/\(st.1.length+t.length<=5000000/\st.2.1.length+st.2.2.1.length+t.length<=5000000)/\∀ r,r∈t->cr r=0) (by omega) ?_ ?_ (s:=(v.seen,([]:O aa),([]:O aj),(0:Int))) rfl ⟨⟨rfl,by simp,by simp⟩,h.pI.can,⟨by simp only;omega,by simp only[List.length_nil];omega⟩,k5⟩
   ·rintro ⟨y,f,e,i⟩ ⟨⟨a1,a2,a3⟩,_,_⟩ hi
    simp only[dP,List.append_nil] at a1 a2 a3 hi ⊢
    unfold jW gL
    have MQ:=Cz w v.seen b.records 0
    rw[if_neg (by simp only[decide_eq_true_eq];omega),a1,a2,a3,Nr v.open_ _ h.pI.Uf.wt.sm (λr hr=>h.sm r (Cy hr)) (by omega),Option.bind_some,List.nil_append,ae (by simp only[List.length_nil];omega),ae (by simp only[List.length_singleton];omega)]
    exact ⟨_,rfl,rfl⟩
   ·rintro ⟨y,f,e,i⟩ r t ⟨⟨a1,a2,a3⟩,hy,⟨Jz,JA⟩,ht⟩ om nu hx hlen
    simp only at a1 a2 a3 hy Jz JA ht om nu hx hlen ⊢
    simp only[List.length_cons] at Jz JA
    have hid:=Cx (ht r (List.mem_cons_self ..))
    have nO:∀ x,x∈t->cr x=0:=λx hx=>ht x (List.mem_cons_of_mem _ hx)
    unfold jW
    rw[if_pos (by simpa using nu),ae ⟨om,nu⟩,hx,QW,Option.bind_some]
    rw[dP] at a1 a2 a3
    by_cases hw:CR w r
    ·rw[if_pos hw] at a1 a2 a3 ⊢
     rw[if_pos (by rfl),QV y _ _ hy (by omega),Option.bind_some]
     by_cases hq:hasB y r.source r.aF=false
     ·rw[if_pos hq] at a1 a2 a3
      rw[if_pos (show Fs r.source r.aF=true/\hasB y r.source r.aF=false from ⟨hid,hq⟩)]
      simp only[if_true]
      rw[ae (by simp only[List.length_singleton];omega),ae (by omega)]
      have:=zm r.source r.aF y
      refine .inr ⟨_,rfl,⟨⟨a1,?_,a3⟩,(zl hid hy hq).1,⟨by simp only;omega,by simp only[List.length_append,List.length_singleton];omega⟩,nO⟩,rfl,trivial⟩
      rw[←a2];simp only[List.append_assoc,List.singleton_append]
     ·rw[if_neg hq] at a1 a2 a3
      rw[if_neg (show ¬(Fs r.source r.aF=true/\hasB y r.source r.aF=false) from λk=>hq k.2)]
      simp only[Bool.false_eq_true,if_false]
      unfold et
      rw[hx,ae (by simp only[List.length_singleton];omega),ae (by omega)]
      refine .inr ⟨_,rfl,⟨⟨a1,a2,?_⟩,hy,⟨by simp only;omega,by simp only[List.length_append,List.length_singleton];omega⟩,nO⟩,rfl,trivial⟩
      rw[←a3];simp only[RC,List.append_assoc,List.singleton_append]
    ·rw[if_neg hw] at a1 a2 a3 ⊢
     rw[if_neg (by decide)]
     unfold et
     rw[hx,ae (by simp only[List.length_singleton];omega),ae (by omega)]
     refine .inr ⟨_,rfl,⟨⟨a1,a2,?_⟩,hy,⟨by simp only;omega,by simp only[List.length_append,List.length_singleton];omega⟩,nO⟩,rfl,trivial⟩
     rw[←a3];simp only[RC,List.append_assoc,List.singleton_append]
  ·rw[if_pos (by simpa using hn),if_neg hn];rfl
 ·rw[if_pos (by simpa using hc),if_neg hc];rfl
theorem Ll (v:bE) (b:Batch) (w:bJ) (h:JC v b):(jN v b w).1.seen.length<=1000000/\(jN v b w).1.open_.length<=1000000/\(jN v b w).1.aX.length<=1000000/\(jN v b w).2.1.length<=1000000/\(jN v b w).2.2.1.length<=1000000:=by
 have hs:=h.seen
 have hh:=h.aX
 have ho:=h.opens
 have hr:=h.sM
 have MQ:=Cz w v.seen b.records 0
 have hj:=rz v.open_ (dP w v.seen 0 b.records).2.1
 unfold jN
 split
 ·split
  ·simp only[wk,List.length_append,List.length_singleton];omega
  ·simp[Ug]
 ·simp[Ug]
end Go.Proofs.Ytpdanklncjopoaa
