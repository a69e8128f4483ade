/- Our own texts of this seat. -/
import Derived.Test.YtimkfiaffohhkaaGreatDoorYT3
import Derived.Lib.ItoaLen
set_option linter.unusedSimpArgs false
set_option linter.unusedVariables false
set_option linter.unusedSectionVars false
set_option maxRecDepth 100000
set_option maxHeartbeats 1000000
namespace Go.Proofs.YtimkfiaffohhkaaGreatDoor
open Go.RowKit Go.Abs Go.Proofs.Tryz
theorem sy {vj:aE} {r:aa} (H:gV vj=some r):aF prog 68 [.agg (aE.row vj)] (·=.agg (aa.row r)):=by
 obtain ⟨i58,fF,iq,iv,th⟩:=iY;refine aF.aZ func68 rfl ntmps68 rfl λS hS=>?_
 unfold gV at H;refine .A 28 [.r 0,.r 1,.d (.agg (aa.row (⟨vj.source,vj.az,vj.kind,vj.a,vj.b,vj.start,vj.cz,0,0,false,vj.cF,vj.bT⟩:aa)))] rfl (aL.g (br yn fF iq rfl (by kernel_rfl))) (.R func68 results68 rfl ?_);cases H;exact .m rfl (.ak _)
theorem yC {aN:List aE} {r:Bool} (H:jy aN=some r):aF prog 36 [aj 12 aE.row aN] (·=cB r):=by
 refine aF.aZ func36 rfl ntmps36 rfl λS hS=>?_
 unfold jy at H;refine .A 12 [.i (aN.length:Int)] rfl (Cl.n rfl rfl) (.lp H (λew=>[(5,.d (aj 12 aE.row aN)),(6,.d (cI (aN.length:Int))),(7,.d (cI ew))]) (λew=>⟨[],[]⟩) (.k3 rfl rfl rfl (.nil)) rfl ?_);rintro ew q1 H bF;unfold gO at H;refine .E 5 rfl (.ite H rfl (λH=>?_) (λH=>?_))
 ·obtain ⟨cU,dj,H⟩:=ck2 H;obtain ⟨y1,cZ,H⟩:=ae H;obtain ⟨y2,fU,H⟩:=ae H;refine .A 42 [.d (.ro (aE.row (nth aN ew.toNat))),.r 0,.i (ew+1),.i (if (nth aN ew.toNat).sub<(nth aN ew.toNat).aq then (nth aN ew.toNat).sub else (nth aN ew.toNat).aq),.i (if (nth aN ew.toNat).sub > (nth aN ew.toNat).aq then (nth aN ew.toNat).sub else (nth aN ew.toNat).aq),.d (.agg (aa.row y1)),.i y2] rfl ⟨rfl,rfl,λhg=>av (en 32 rfl) rfl rfl (gY (aO fU hg)),rfl,λhg=>av (en 77 rfl) rfl rfl (sy (aO cZ hg)),rfl,rfl,rfl,λhg=>aL.g (WS rfl rfl),rfl,rfl,rfl,rfl,rfl,rfl,λhg=>aL.g (WR rfl rfl),rfl,rfl,rfl,rfl,aJ rfl rfl dj,Cl.ix rfl rfl rfl cU⟩ (.ite H rfl (λH=>?_) (λH=>?_))
  ·refine .E 4 rfl (.R func36 results36 rfl ?_);cases H;cases bF;exact .m rfl (.ak _)
  ·obtain ⟨eL,H⟩:=au H;refine .A 6 [.i (ew+1)] rfl (aJ rfl rfl eL) ?_;cases H;exact .t 0 0 bF rfl rfl rfl rfl rfl hS rfl
 ·refine .E 5 rfl (.R func36 results36 rfl ?_);cases H;cases bF;exact .m rfl (.ak _)
theorem vv {cN:List (List aa)} {r:(List aa)} (H:gr cN=some r):aR prog 69 [.d (aj 1 (Vi 12 aa.row) cN)] ⟨[],[]⟩ (QE (.cY 12 (r.map aa.row) 0) ⟨[],[bq r.length]⟩):=by
 obtain ⟨i23,hi23,hz23,hs23,hb23⟩:=RD;obtain ⟨i58,fF,iq,iv,th⟩:=iY;refine aR.mj ?_;refine aR.enter func69 rfl ntmps69 rfl λS hS=>?_
 unfold gr at H;refine .A 15 [.i (cN.length:Int)] rfl (Un.n rfl rfl) (.bQ (ι:=Int) (λvU=>[(0,.d (aj 1 (Vi 12 aa.row) cN)),(3,.d (cI vU))]) (λvU=>⟨[],[]⟩) (λs=>dU cN s=some r) ?_ ?_)
 ·rintro vU H;replace H:dU cN vU=some r:=H;unfold dU at H;obtain ⟨y1,cZ,H⟩:=ae H;refine .F 3 rfl (.fJ (en 78 rfl) rfl [] [] (x:=.vc 0 y1.length) (st':=⟨[],[aa.od y1]⟩) rfl (D5 cZ) ⟨.ak _,.ak _,trivial⟩ rfl rfl rfl rfl rfl rfl (.A 10 [.i (cN.length:Int)] rfl (Un.n rfl rfl) (.lp H (λ⟨bl,sZ⟩=>[(6,.vc 0 bl.length),(25,.d (aj 1 (Vi 12 aa.row) cN)),(26,.d (cI (cN.length:Int))),(27,.d (cI sZ))]) (λ⟨bl,sZ⟩=>⟨[],[aa.od bl]⟩) (.k4 rfl rfl rfl rfl (.nil)) rfl ?_)));rintro ⟨bl,sZ⟩ q1 H bF
  dsimp only at H
  unfold fb at H;refine .E 5 rfl (.ite H rfl (λH=>?_) (λH=>?_))
  ·obtain ⟨cU,dj,eL,H⟩:=ck3 H;refine .A 20 [.d (.ro ((Vi 12 aa.row) (nth cN sZ.toNat))),.t (.vc 0 (bl++(nth cN sZ.toNat)).length) 0 (aa.od (bl++(nth cN sZ.toNat))),.i (sZ+1)] rfl ⟨aJ rfl rfl eL,.e (gS (l:=bl) (l':=nth cN sZ.toNat) (row:=aa.row) underlying23 fF iq iv rfl (by rw [th];decide) rfl rfl rfl rfl dj) rfl,Un.ix rfl rfl rfl cU⟩ ?_;cases H;exact .z bF rfl rfl
  ·refine .E 6 rfl (.wN (l:=bl) (row:=aa.row) (i:=2) rfl rfl (.R func69 results69 rfl ?_));cases H;cases bF;exact ⟨[],[0],rfl,rfl,rfl,rfl,rfl,rfl,rfl,rfl,.ak _⟩
 ·intro qN gw;obtain ⟨n2,H⟩:=fG H;refine let z0:=(aj 1 (Vi 12 aa.row) cN);.loop (ι:=Nat×(Int×Int)) (λ⟨_,nw,sa⟩=>[(0,.d z0),(3,.d (cI nw)),(9,.d z0),(10,.d (cI (cN.length:Int))),(11,.d (cI sa))]) (λ⟨_,nw,sa⟩=>⟨[],[]⟩) (λp=>iter (λs=>dt cN s.1 s.2) p.1 p.2=some r) (·.1) (n2,(0,0)) H (.k5 rfl rfl rfl rfl rfl (.nil)) rfl ?_
  rintro ⟨m1,nw,sa⟩ HI FQ;obtain ⟨n1,q1,uH,H,bF⟩:=fH HI;clear HI;replace H:dt cN nw sa=some q1:=H;unfold dt at H;refine .E 5 rfl (.ite H rfl (λH=>?_) (λH=>?_))
  ·obtain ⟨iJ,my,H⟩:=ck2 H;refine .A 22 [.d (.ro ((Vi 12 aa.row) (nth cN sa.toNat))),.i ((nth cN sa.toNat).length:Int),.i (nw+((nth cN sa.toNat).length:Int))] rfl ⟨aJ rfl rfl my,ir.n rfl rfl,Un.ix rfl rfl rfl iJ⟩ (.ite H rfl (λH=>?_) (λH=>?_))
   ·cases H
   ·obtain ⟨sx,H⟩:=au H;refine .A 6 [.i (sa+1)] rfl (aJ rfl rfl sx) ?_;cases H;exact .z (FQ (n1,(nw+((nth cN sa.toNat).length:Int),sa+1)) bF uH) rfl rfl
  ·refine .E 1 rfl ?_;obtain ⟨q0,H9,mW⟩:=ca H;clear H;cases mW;cases bF;have H:=H9;exact .z (gw nw H) rfl rfl
theorem yD {de:ag} {r:Bool} (H:jz de=some r):aF prog 37 [.agg (ag.row de)] (·=cB r):=by
 obtain ⟨i4,Cm,TJ,Ew,VE⟩:=MX;obtain ⟨i23,hi23,hz23,hs23,hb23⟩:=RD;obtain ⟨i58,fF,iq,iv,th⟩:=iY;obtain ⟨i114,hi114,hz114,hs114,hb114⟩:=Xb;refine aF.aZ func37 rfl ntmps37 rfl λS hS=>?_
 unfold jz at H;obtain ⟨y1,cZ,H⟩:=ae H;refine .B 18 [.r 0,.v (.mp 1) ⟨[ag.o30 de,mo5 ([]:List (aW×Bool))],[]⟩,.d (aj 1 (Vi 12 aa.row) ([de.aB,de.aw.open_]:List (List aa)))] rfl ⟨iW (n:=2) (rows:=([de.aB,de.aw.open_]:List (List aa)).map (Vi 12 aa.row)) underlying165 hi23 hs23 hz23 rfl rfl rfl rfl rfl,.e iw rfl⟩ ?_;refine .fJ (en 79 rfl) rfl [] [] (x:=.cY 12 (y1.map aa.row) 0) (st':=⟨[ag.o30 de,mo5 ([]:List (aW×Bool))],[bq y1.length]⟩) rfl (vv cZ) ⟨.ak _,trivial⟩ rfl rfl (by first|rfl|(simp only [zap,zbf,dF,dG,cq];rfl)) rfl rfl (by first|rfl|(simp only [zap,zbf,dF,dG,cq];rfl)) ?_;refine .A 10 [.i (de.usages.length:Int)] rfl (Cl.n rfl rfl) (.bQ (ι:=List aa) (λcL=>[(1,.ref 0 0),(3,.mp 1),(4,.cY 12 (cL.map aa.row) 0)]) (λcL=>⟨[ag.o30 de,mo5 ([]:List (aW×Bool))],[bq cL.length]⟩) (λs=>ey de s=some r) ?_ ?_)
 ·rintro cL H;replace H:ey de cL=some r:=H;unfold ey at H;refine .A 8 [.i (cL.length:Int)] rfl (ir.n rfl rfl) (.lp H (λ⟨ja,cE⟩=>[(1,.ref 0 0),(3,.mp 1),(31,.cY 12 (cL.map aa.row) 0),(32,.d (cI (cL.length:Int))),(33,.d (cI ja))]) (λ⟨ja,cE⟩=>⟨[ag.o30 de,mo5 cE],[bq cL.length]⟩) (.k5 rfl rfl rfl rfl rfl (.nil)) rfl ?_);rintro ⟨ja,cE⟩ q1 H bF
  dsimp only at H
  unfold gQ at H;refine .E 5 rfl (.ite H rfl (λH=>?_) (λH=>?_))
  ·obtain ⟨cU,H⟩:=au H;obtain ⟨y2,fU,H⟩:=ae H;refine .A 38 [.d (.ro (aa.row (nth cL ja.toNat))),.r 2,.d (.agg (aW.row (⟨(nth cL ja.toNat).source,(nth cL ja.toNat).az⟩:aW))),.r 3,.b ((aC cE (⟨(nth cL ja.toNat).source,(nth cL ja.toNat).az⟩:aW)).getD false),.b y2] rfl ⟨rfl,rfl,λhg=>av (en 23 rfl) rfl rfl (Af (aO fU hg)),rfl,rfl,rfl,rfl,rfl,rfl,rfl,aL.g (fK sw (l:=cE) (val:=(λx=>cB x)) (k:=(⟨(nth cL ja.toNat).source,(nth cL ja.toNat).az⟩:aW)) (a0:=false) underlying111 Cm TJ (show uB (cB false) (cB false) from .ak _) rfl rfl rfl (λ_ _ _ h=>IK (vs:=_) h rfl)),aL.g (br Xp hi114 hz114 rfl rfl),ir.ix rfl rfl rfl cU⟩ (.ite H rfl (λH=>?_) (λH=>?_))
   ·refine .E 4 rfl (.R func37 results37 rfl ?_);cases H;cases bF;exact .m rfl (.ak _)
   ·obtain ⟨dj,H⟩:=au H;refine .A 11 [.u ⟨[ag.o30 de,mo5 (c8 cE (⟨(nth cL ja.toNat).source,(nth cL ja.toNat).az⟩:aW) true),aa.o58 (nth cL ja.toNat),.row 114 [.d (cI (nth cL ja.toNat).source),.d (cI (nth cL ja.toNat).az)]],[bq cL.length]⟩,.i (ja+1)] rfl ⟨aJ rfl rfl dj,.e (dC sw (l:=cE) (val:=(λx=>cB x)) (k:=(⟨(nth cL ja.toNat).source,(nth cL ja.toNat).az⟩:aW)) (a:=true) underlying111 rfl rfl rfl (λ_ _ _ h=>IK (vs:=_) h rfl) rfl (.ak _)) rfl⟩ ?_;cases H;exact .t 2 1 bF rfl rfl rfl rfl (mL rfl (aA rfl (aA aY rfl))) hS rfl
  ·refine .E 5 rfl (.R func37 results37 rfl ?_);cases H;cases bF;exact .m rfl (.ak _)
 ·intro qN gw;obtain ⟨n2,H⟩:=fG H;refine .loop (ι:=Nat×(List aa×Int)) (λ⟨_,nz,vV⟩=>[(1,.ref 0 0),(3,.mp 1),(4,.cY 12 (nz.map aa.row) 0),(19,.d (aj 12 aE.row de.usages)),(20,.d (cI (de.usages.length:Int))),(21,.d (cI vV))]) (λ⟨_,nz,vV⟩=>⟨[ag.o30 de,mo5 ([]:List (aW×Bool))],[bq nz.length]⟩) (λp=>iter (λs=>eA de s.1 s.2) p.1 p.2=some r) (·.1) (n2,(y1,0)) H (.k6 rfl rfl rfl rfl rfl rfl (.nil)) rfl ?_
  rintro ⟨m1,nz,vV⟩ HI FQ;obtain ⟨n1,q1,uH,H,bF⟩:=fH HI;clear HI;replace H:eA de nz vV=some q1:=H;unfold eA at H;refine .E 5 rfl (.ite H rfl (λH=>?_) (λH=>?_))
  ·obtain ⟨eL,H⟩:=au H;obtain ⟨y3,jR,H⟩:=ae H;obtain ⟨iJ,my,H⟩:=ck2 H;refine .A 23 [.d (.ro (aE.row (nth de.usages vV.toNat))),.r 2,.d (.agg (aa.row y3)),.d (aj 12 aa.row ([y3]:List aa)),.a 0 58 12 aa.row (nz++([y3]:List aa)),.i (vV+1)] rfl ⟨aJ rfl rfl my,ir.a rfl rfl rfl rfl iJ,bp underlying23 fF iv iq rfl rfl rfl rfl rfl,av (en 77 rfl) rfl rfl (sy jR),Cl.ix rfl rfl rfl eL⟩ ?_;cases H;exact .t 2 1 (FQ (n1,(nz++([y3]:List aa),vV+1)) bF uH) rfl rfl rfl rfl (mL rfl (aA rfl (aA aY rfl))) hS rfl
  ·refine .E 1 rfl ?_;obtain ⟨q0,H9,mW⟩:=ca H;clear H;cases mW;cases bF;have H:=H9;exact .z (gw nz H) rfl rfl
theorem xO {pF:aa} {r:Bool} (H:iS pF=some r):aF prog 39 [.agg (aa.row pF)] (·=cB r):=by
 refine aF.aZ func39 rfl ntmps39 rfl λS hS=>?_
 unfold iS at H;obtain ⟨y1,cZ,H⟩:=ae H;refine .A 17 [.r 0,.i y1] rfl ⟨rfl,rfl,λhg=>av (en 32 rfl) rfl rfl (gY (aO cZ hg)),rfl⟩ (.R func39 results39 rfl ?_);cases H;exact .m rfl (.ak _)
theorem xP {J4:ai} {r:Bool} (H:kS J4=some r):aF prog 42 [.agg (ai.row J4)] (·=cB r):=by
 refine aF.aZ func42 rfl ntmps42 rfl λS hS=>?_
 unfold kS at H;refine .A 17 [.r 0] rfl ⟨rfl,rfl,rfl⟩ (.R func42 results42 rfl ?_);cases H;exact .m rfl (.ak _)
theorem BO {cm:List aa} {r:Int} (H:pA cm=some r):aR prog 71 [.d (aj 12 aa.row cm),.d (.ex (.func (.func 39) #[] #[]))] ⟨[],[]⟩ (QE (.d (cI r)) ⟨[],[]⟩):=by
 refine aR.mj ?_;refine aR.enter func71 rfl ntmps71 rfl λS hS=>?_
 unfold pA at H;refine .A 12 [.i (cm.length:Int)] rfl (ir.n rfl rfl) (.lp H (λbu=>[(0,.d (aj 12 aa.row cm)),(1,.d (.ex (.func (.func 39) #[] #[]))),(7,.d (cI (cm.length:Int))),(8,.d (cI bu))]) (λbu=>⟨[],[]⟩) (.k4 rfl rfl rfl rfl (.nil)) rfl ?_);rintro bu q1 H bF;unfold jA at H;refine .E 5 rfl (.ite H rfl (λH=>?_) (λH=>?_))
 ·obtain ⟨cU,H⟩:=au H;obtain ⟨y1,cZ,H⟩:=ae H;refine .A 17 [.d (.ro (aa.row (nth cm bu.toNat))),.b y1] rfl ⟨s9 (en 80 rfl) rfl rfl rfl (xO cZ),ir.ix rfl rfl rfl cU⟩ (.ite H rfl (λH=>?_) (λH=>?_))
  ·refine .E 5 rfl (.R func71 results71 rfl ?_);cases H;cases bF;exact ⟨[],[],rfl,rfl,rfl,rfl,rfl,rfl,rfl,rfl,.ak _⟩
  ·obtain ⟨dj,H⟩:=au H;refine .A 6 [.i (bu+1)] rfl (aJ rfl rfl dj) ?_;cases H;exact .z bF rfl rfl
 ·refine .E 5 rfl (.R func71 results71 rfl ?_);cases H;cases bF;exact ⟨[],[],rfl,rfl,rfl,rfl,rfl,rfl,rfl,rfl,.ak _⟩
theorem BP {cm:List aa} {r:Bool} (H:mv cm=some r):aR prog 38 [.d (aj 12 aa.row cm),.d (.ex (.func (.func 39) #[] #[]))] ⟨[],[]⟩ (QE (.d (cB r)) ⟨[],[]⟩):=by
 refine aR.mj ?_;refine aR.enter func38 rfl ntmps38 rfl λS hS=>?_
 unfold mv at H;obtain ⟨y1,cZ,H⟩:=ae H;refine .A 12 [.i y1] rfl (av (en 30 rfl) rfl rfl (aF.ofE (ds:=[aj 12 aa.row cm,.ex (.func (.func 39) #[] #[])]) (BO cZ))) (.R func38 results38 rfl ?_);cases H;exact ⟨[],[],rfl,rfl,rfl,rfl,rfl,rfl,rfl,rfl,.ak _⟩
theorem ti {cm:List ai} {r:Int} (H:gK cm=some r):aR prog 73 [.d (aj 4 ai.row cm),.d (.ex (.func (.func 42) #[] #[]))] ⟨[],[]⟩ (QE (.d (cI r)) ⟨[],[]⟩):=by
 refine aR.mj ?_;refine aR.enter func73 rfl ntmps73 rfl λS hS=>?_
 unfold gK at H;refine .A 12 [.i (cm.length:Int)] rfl (J2.n rfl rfl) (.lp H (λbu=>[(0,.d (aj 4 ai.row cm)),(1,.d (.ex (.func (.func 42) #[] #[]))),(7,.d (cI (cm.length:Int))),(8,.d (cI bu))]) (λbu=>⟨[],[]⟩) (.k4 rfl rfl rfl rfl (.nil)) rfl ?_);rintro bu q1 H bF;unfold ed at H;refine .E 5 rfl (.ite H rfl (λH=>?_) (λH=>?_))
 ·obtain ⟨cU,H⟩:=au H;obtain ⟨y1,cZ,H⟩:=ae H;refine .A 17 [.d (.ro (ai.row (nth cm bu.toNat))),.b y1] rfl ⟨s9 (en 81 rfl) rfl rfl rfl (xP cZ),J2.ix rfl rfl rfl cU⟩ (.ite H rfl (λH=>?_) (λH=>?_))
  ·refine .E 5 rfl (.R func73 results73 rfl ?_);cases H;cases bF;exact ⟨[],[],rfl,rfl,rfl,rfl,rfl,rfl,rfl,rfl,.ak _⟩
  ·obtain ⟨dj,H⟩:=au H;refine .A 6 [.i (bu+1)] rfl (aJ rfl rfl dj) ?_;cases H;exact .z bF rfl rfl
 ·refine .E 5 rfl (.R func73 results73 rfl ?_);cases H;cases bF;exact ⟨[],[],rfl,rfl,rfl,rfl,rfl,rfl,rfl,rfl,.ak _⟩
theorem rz {cm:List ai} {r:Bool} (H:ef cm=some r):aR prog 41 [.d (aj 4 ai.row cm),.d (.ex (.func (.func 42) #[] #[]))] ⟨[],[]⟩ (QE (.d (cB r)) ⟨[],[]⟩):=by
 refine aR.mj ?_;refine aR.enter func41 rfl ntmps41 rfl λS hS=>?_
 unfold ef at H;obtain ⟨y1,cZ,H⟩:=ae H;refine .A 12 [.i y1] rfl (av (en 82 rfl) rfl rfl (aF.ofE (ds:=[aj 4 ai.row cm,.ex (.func (.func 42) #[] #[])]) (ti cZ))) (.R func41 results41 rfl ?_);cases H;exact ⟨[],[],rfl,rfl,rfl,rfl,rfl,rfl,rfl,rfl,.ak _⟩
theorem kV {de:ag} {r:Bool} (H:eE de=some r):aF prog 12 [.agg (ag.row de)] (·=cB r):=by
 refine aF.aZ func12 rfl ntmps12 rfl λS hS=>?_
 unfold eE at H;obtain ⟨y1,cZ,H⟩:=ae H;obtain ⟨y2,fU,H⟩:=ae H;obtain ⟨y3,jR,H⟩:=ae H;refine .A 24 [.r 0,.b y1,.b y2,.b y3] rfl ⟨rfl,rfl,λhg=>av (en 83 rfl) rfl rfl (yD (aO jR hg)),rfl,rfl,rfl,λhg=>av (en 84 rfl) rfl rfl (yC (aO fU hg)),rfl,rfl,av (en 85 rfl) rfl rfl (C3 cZ)⟩ (.ite H rfl (λH=>?_) (λH=>?_))
 ·refine .E 4 rfl (.R func12 results12 rfl ?_);cases H;exact .m rfl (.ak _)
 ·obtain ⟨y4,oB,H⟩:=ae H;refine .A 8 [.b y4] rfl (av (en 86 rfl) rfl rfl (aF.ofE (ds:=[aj 12 aa.row de.aB,.ex (.func (.func 39) #[] #[])]) (BP oB))) (.ite H rfl (λH=>?_) (λH=>?_))
  ·refine .E 4 rfl (.R func12 results12 rfl ?_);cases H;exact .m rfl (.ak _)
  ·obtain ⟨y5,sH,H⟩:=ae H;refine .A 8 [.b y5] rfl (av (en 87 rfl) rfl rfl (aF.ofE (ds:=[aj 4 ai.row de.ba,.ex (.func (.func 42) #[] #[])]) (rz sH))) (.ite H rfl (λH=>?_) (λH=>?_))
   ·refine .E 4 rfl (.R func12 results12 rfl ?_);cases H;exact .m rfl (.ak _)
   ·obtain ⟨y6,xW,H⟩:=ae H;obtain ⟨cU,dj,eL,iJ,H⟩:=ck4 H;refine .A 34 [.d (.agg (bw.row y6)),.r 1,.i (y6.accepted+y6.merged),.i ((y6.accepted+y6.merged)+y6.rejected),.i (((y6.accepted+y6.merged)+y6.rejected)+y6.bn),.i ((((y6.accepted+y6.merged)+y6.rejected)+y6.bn)+y6.open_)] rfl ⟨rfl,rfl,rfl,λhg=>aJ rfl rfl (iJ hg),rfl,rfl,rfl,λhg=>aJ rfl rfl (eL hg),rfl,rfl,rfl,λhg=>aJ rfl rfl (dj hg),rfl,rfl,rfl,λhg=>aJ rfl rfl (cU hg),rfl,rfl,rfl,rfl,rfl,av (en 88 rfl) rfl rfl (bB xW)⟩ (.R func12 results12 rfl ?_);cases H;exact .m rfl (.ak _)
theorem fV {r:Bool} (H:fQ=some r):aF prog 10 [] (·=cB r):=by
 obtain ⟨i30,P4,P5,hs30,hb30⟩:=Vu;obtain ⟨i34,P6,P7,hs34,hb34⟩:=RE;obtain ⟨i38,Ut,Uu,hs38,hb38⟩:=Z4;obtain ⟨i40,hi40,hz40,hs40,hb40⟩:=Z5;obtain ⟨i58,fF,iq,iv,th⟩:=iY;refine aF.aZ func10 rfl ntmps10 rfl λS hS=>?_
 unfold fQ at H;refine .A 11 [.d (.agg (aa.row kq8)),.r 0] rfl (aL.g (br yn fF iq rfl rfl)) ?_;refine let z0:dD:=.row 58 [.d (cI 1),.d (cI 1),.d (cI 2),.d (cS ([49]:List UInt8)),.d (cS ([50]:List UInt8)),.d (cI 20),.d (cI 1),.d (cI 0),.d (cI 0),.d (cB false),.d (cI 0),.d (cB false)];let z1:dD:=.row 58 [.d (cI 0),.d (cI 0),.d (cI 0),.d (cS ([]:List UInt8)),.d (cS ([]:List UInt8)),.d (cI 0),.d (cI 0),.d (cI 0),.d (cI 0),.d (cB false),.d (cI 0),.d (cB false)];.Um (E0:=[(0,.d (cB false)),(1,.ref 0 0),(2,.ref 1 0),(3,.ref 2 0),(11,.d (.agg (aa.row kq8))),(12,.d (.agg (aa.row kq8))),(13,.d (.agg (aa.row kq8)))]) (st0:=⟨[z0,z0,z1],[]⟩) 5 2 3 4 [⟨[z0],[]⟩,⟨[z0,z1],[]⟩,⟨[z0,z1,z1],[]⟩,⟨[z0,z0,z1],[]⟩] [⟨[z0],[]⟩,⟨[z0,z1],[]⟩,⟨[z0,z1,z1],[]⟩,⟨[z0,z1,z0],[]⟩] oc (by kernel_rfl) (by decide) (by decide) (by decide) (by decide) (by kernel_rfl) (by kernel_rfl) rfl rfl (λBQ=>?_) (λBQ=>?_) ?_
 ·show kZ _ _ _ _ _ _ _ _ _ _ (_::_) _ _;exact .g (x:=.d (.agg (aa.row kq8))) 0 2 ⟨aL.g (bP eY gZ rfl rfl (zae rfl) rfl),aL.g (bP eY gZ rfl rfl (zae rfl) rfl),aL.g (bP eY gZ rfl rfl (zae rfl) rfl),trivial⟩ rfl (by kernel_rfl) rfl (.g (x:=.d (.agg (aa.row kq8))) 0 3 ⟨aL.g (bP eY gZ rfl rfl (zae rfl) rfl),aL.g (bP eY gZ rfl rfl (zae rfl) rfl),aL.g (bP eY gZ rfl rfl (zae rfl) rfl),aL.g (bP eY gZ rfl rfl (zae rfl) rfl),trivial⟩ rfl (by kernel_rfl) rfl (.v (x:=.ref 1 0) 0 (gI KV rfl) rfl rfl rfl rfl (.v (x:=.ref 2 0) 1 (gI KV rfl) rfl rfl rfl rfl (.u 2 (s7 rfl rfl rfl rfl (zae rfl) gZ) rfl rfl rfl rfl (.nil rfl (.sub (.k7 rfl rfl rfl rfl rfl rfl rfl (.nil)) BQ))))))
 ·show kZ _ _ _ _ _ _ _ _ _ _ (_::_) _ _;refine .g (x:=.d (.agg (aa.row kq8))) 0 2 ⟨aL.g (bP eY gZ rfl rfl (zae rfl) rfl),aL.g (bP eY gZ rfl rfl (zae rfl) rfl),aL.g (bP eY gZ rfl rfl (zae rfl) rfl),trivial⟩ rfl (by kernel_rfl) rfl (.g (x:=.d (.agg (aa.row kq8))) 0 3 ⟨aL.g (bP eY gZ rfl rfl (zae rfl) rfl),aL.g (bP eY gZ rfl rfl (zae rfl) rfl),aL.g (bP eY gZ rfl rfl (zae rfl) rfl),aL.g (bP eY gZ rfl rfl (zae rfl) rfl),trivial⟩ rfl (by kernel_rfl) rfl (.v (x:=.ref 2 0) 1 (gI KV rfl) rfl rfl rfl rfl (.v (x:=.ref 1 0) 0 (gI KV rfl) rfl rfl rfl rfl (.u 2 (s7 rfl rfl rfl rfl (zae rfl) gZ) rfl rfl rfl rfl (.nil rfl ?_)))));exact .reorder [0,2,1] [] rfl rfl rfl (by rw [hS];rfl) (by rw [hS];rfl) (by rw [hS];rfl) rfl rfl (.k7 rfl rfl rfl rfl rfl rfl rfl (.nil)) BQ
 show cn _ _ _ _ _ _ (_::_) _ _ _;refine .A 50 [.r 3,.d (.agg (b9.row (⟨0,100⟩:b9))),.r 4] rfl (aL.g (br Z7 hi40 hz40 rfl rfl)) ?_;obtain ⟨y1,cZ,H⟩:=ae H;obtain ⟨y2,fU,H⟩:=ae H;refine let z0:dD:=.row 58 [.d (cI 1),.d (cI 1),.d (cI 2),.d (cS ([49]:List UInt8)),.d (cS ([50]:List UInt8)),.d (cI 20),.d (cI 1),.d (cI 0),.d (cI 0),.d (cB false),.d (cI 0),.d (cB false)];let z1:dD:=.row 58 [.d (cI 1),.d (cI 2),.d (cI 2),.d (cS ([51]:List UInt8)),.d (cS ([50]:List UInt8)),.d (cI 20),.d (cI 1),.d (cI 0),.d (cI 0),.d (cB false),.d (cI 0),.d (cB false)];let z2:dD:=.row 58 [.d (cI 1),.d (cI 1),.d (cI 2),.d (cS ([49]:List UInt8)),.d (cS ([50]:List UInt8)),.d (cI 20),.d (cI 1),.d (cI 5),.d (cI 1),.d (cB false),.d (cI 0),.d (cB false)];let z3:dD:=.row 58 [.d (cI 1),.d (cI 2),.d (cI 2),.d (cS ([49]:List UInt8)),.d (cS ([50]:List UInt8)),.d (cI 20),.d (cI 1),.d (cI 5),.d (cI 2),.d (cB true),.d (cI 0),.d (cB false)];let z4:dD:=.row 40 [.d (cI 0),.d (cI 100)];.wP 13 11 12 [⟨[z0,z1,z2,z3,z4],[]⟩,⟨[z0,z1,z2,z3,z4,.row 30 [.d bd,.d bd,.d bd,.d bd,.d bd,.d bd]],[]⟩,⟨[z0,z1,z2,z3,z4,ag.o30 y2.1],[]⟩] oc (by kernel_rfl) (by decide) (by decide) (by kernel_rfl) rfl ?_;show kZ _ _ _ _ _ _ _ _ _ _ (_::_) _ _;refine .g (x:=.d (aj 7 Event.row y1)) 0 1 ⟨(av (en 89 rfl) rfl rfl (lR cZ)),(av (en 89 rfl) rfl rfl (lR cZ)),trivial⟩ rfl (by kernel_rfl) rfl (.g (x:=.d (.agg (ag.row kq13))) 0 1 ⟨aL.g (aL.le (br KS P4 P5 rfl rfl) (eG.d (.agg ⟨.nil 3,.nil 12,.nil 4,.nil 12,.nil 12,.nil 4,trivial⟩))),aL.g (aL.le (br KS P4 P5 rfl rfl) (eG.d (.agg ⟨.nil 3,.nil 12,.nil 4,.nil 12,.nil 12,.nil 4,trivial⟩))),trivial⟩ rfl (by kernel_rfl) rfl (.g (x:=.d (.agg (aa.row kq8))) 0 1 ⟨aL.g (bP eY gZ rfl rfl (zae rfl) rfl),aL.g (bP eY gZ rfl rfl (zae rfl) rfl),trivial⟩ rfl (by kernel_rfl) rfl (.g (x:=.d (.agg (aa.row kq9))) 0 1 ⟨aL.g (bP eY gZ rfl rfl (zae rfl) rfl),aL.g (bP eY gZ rfl rfl (zae rfl) rfl),trivial⟩ rfl (by kernel_rfl) rfl (.g (x:=.d (aj 12 aa.row ([kq8,kq9]:List aa))) 0 1 ⟨(iW (n:=2) (rows:=([kq8,kq9]:List aa).map aa.row) underlying23 fF iv iq rfl rfl rfl rfl rfl),(iW (n:=2) (rows:=([kq8,kq9]:List aa).map aa.row) underlying23 fF iv iq rfl rfl rfl rfl rfl),trivial⟩ rfl (by kernel_rfl) rfl (.g (x:=.d (.agg (Batch.row (⟨1,1,1,([kq8,kq9]:List aa)⟩:Batch)))) 0 1 ⟨aL.g (br Oj Ut Uu rfl rfl),aL.g (br Oj Ut Uu rfl rfl),trivial⟩ rfl (by kernel_rfl) rfl (.g (x:=.d (.agg (b9.row (⟨0,100⟩:b9)))) 0 1 ⟨aL.g (bP I0 Od rfl rfl (zae rfl) rfl),aL.g (bP I0 Od rfl rfl (zae rfl) rfl),trivial⟩ rfl (by kernel_rfl) rfl (.g (x:=.d (.eF [.agg (ag.row y2.1),cI y2.2])) 0 1 ⟨(av (en 90 rfl) rfl rfl (eS fU)),(av (en 90 rfl) rfl rfl (eS fU)),trivial⟩ rfl (by kernel_rfl) rfl (.g (x:=.d (.eF [.agg (ag.row y2.1),cI y2.2])) 0 1 ⟨aL.g (cD rfl),aL.g (cD rfl),trivial⟩ rfl (by kernel_rfl) rfl (.g (x:=.d (.agg (ag.row y2.1))) 0 1 ⟨aL.g (cC rfl rfl),aL.g (cC rfl rfl),trivial⟩ rfl (by kernel_rfl) rfl (.g (x:=.d (cI y2.2)) 0 2 ⟨aL.g (cC rfl rfl),aL.g (cC rfl rfl),aL.g (cC rfl rfl),trivial⟩ rfl (by kernel_rfl) rfl (.v (x:=.ref 5 0) 0 (gI Om rfl) rfl rfl rfl rfl (.u 1 (s7 rfl rfl rfl rfl (zae rfl) sW) rfl rfl rfl rfl (.nil rfl ?_)))))))))))));show cn _ _ _ _ _ _ (_::_) _ _ _;refine .E 3 rfl ?_;obtain ⟨y3,jR,H⟩:=ae H;obtain ⟨y4,oB,H⟩:=ae H;refine let z0:dD:=.row 58 [.d (cI 1),.d (cI 1),.d (cI 2),.d (cS ([49]:List UInt8)),.d (cS ([50]:List UInt8)),.d (cI 20),.d (cI 1),.d (cI 0),.d (cI 0),.d (cB false),.d (cI 0),.d (cB false)];let z1:dD:=.row 58 [.d (cI 1),.d (cI 2),.d (cI 2),.d (cS ([51]:List UInt8)),.d (cS ([50]:List UInt8)),.d (cI 20),.d (cI 1),.d (cI 0),.d (cI 0),.d (cB false),.d (cI 0),.d (cB false)];let z2:dD:=.row 58 [.d (cI 1),.d (cI 1),.d (cI 2),.d (cS ([49]:List UInt8)),.d (cS ([50]:List UInt8)),.d (cI 20),.d (cI 1),.d (cI 5),.d (cI 1),.d (cB false),.d (cI 0),.d (cB false)];let z3:dD:=.row 58 [.d (cI 1),.d (cI 2),.d (cI 2),.d (cS ([49]:List UInt8)),.d (cS ([50]:List UInt8)),.d (cI 20),.d (cI 1),.d (cI 5),.d (cI 2),.d (cB true),.d (cI 0),.d (cB false)];let z4:dD:=.row 40 [.d (cI 0),.d (cI 100)];.wP 13 11 12 [⟨[z0,z1,z2,z3,z4,ag.o30 y2.1],[]⟩,⟨[z0,z1,z2,z3,z4,ag.o30 y2.1,.row 30 [.d bd,.d bd,.d bd,.d bd,.d bd,.d bd]],[]⟩,⟨[z0,z1,z2,z3,z4,ag.o30 y2.1,ag.o30 y4.1],[]⟩] oc (by kernel_rfl) (by decide) (by decide) (by kernel_rfl) rfl ?_;show kZ _ _ _ _ _ _ _ _ _ _ (_::_) _ _;refine .g (x:=.d (aj 7 Event.row y3)) 0 1 ⟨(av (en 89 rfl) rfl rfl (lR jR)),(av (en 89 rfl) rfl rfl (lR jR)),trivial⟩ rfl (by kernel_rfl) rfl (.g (x:=.d (.agg (ag.row kq13))) 0 1 ⟨aL.g (aL.le (br KS P4 P5 rfl rfl) (eG.d (.agg ⟨.nil 3,.nil 12,.nil 4,.nil 12,.nil 12,.nil 4,trivial⟩))),aL.g (aL.le (br KS P4 P5 rfl rfl) (eG.d (.agg ⟨.nil 3,.nil 12,.nil 4,.nil 12,.nil 12,.nil 4,trivial⟩))),trivial⟩ rfl (by kernel_rfl) rfl (.g (x:=.d (.agg (aa.row kq10))) 0 1 ⟨aL.g (bP eY gZ rfl rfl (zae rfl) rfl),aL.g (bP eY gZ rfl rfl (zae rfl) rfl),trivial⟩ rfl (by kernel_rfl) rfl (.g (x:=.d (.agg (aa.row kq7))) 0 1 ⟨aL.g (bP eY gZ rfl rfl (zae rfl) rfl),aL.g (bP eY gZ rfl rfl (zae rfl) rfl),trivial⟩ rfl (by kernel_rfl) rfl (.g (x:=.d (aj 12 aa.row ([kq10,kq7]:List aa))) 0 1 ⟨(iW (n:=2) (rows:=([kq10,kq7]:List aa).map aa.row) underlying23 fF iv iq rfl rfl rfl rfl rfl),(iW (n:=2) (rows:=([kq10,kq7]:List aa).map aa.row) underlying23 fF iv iq rfl rfl rfl rfl rfl),trivial⟩ rfl (by kernel_rfl) rfl (.g (x:=.d (.agg (Batch.row (⟨1,1,1,([kq10,kq7]:List aa)⟩:Batch)))) 0 1 ⟨aL.g (br Oj Ut Uu rfl rfl),aL.g (br Oj Ut Uu rfl rfl),trivial⟩ rfl (by kernel_rfl) rfl (.g (x:=.d (.agg (b9.row (⟨0,100⟩:b9)))) 0 1 ⟨aL.g (bP I0 Od rfl rfl (zae rfl) rfl),aL.g (bP I0 Od rfl rfl (zae rfl) rfl),trivial⟩ rfl (by kernel_rfl) rfl (.g (x:=.d (.eF [.agg (ag.row y4.1),cI y4.2])) 0 1 ⟨(av (en 90 rfl) rfl rfl (eS oB)),(av (en 90 rfl) rfl rfl (eS oB)),trivial⟩ rfl (by kernel_rfl) rfl (.g (x:=.d (.eF [.agg (ag.row y4.1),cI y4.2])) 0 1 ⟨aL.g (cD rfl),aL.g (cD rfl),trivial⟩ rfl (by kernel_rfl) rfl (.g (x:=.d (.agg (ag.row y4.1))) 0 1 ⟨aL.g (cC rfl rfl),aL.g (cC rfl rfl),trivial⟩ rfl (by kernel_rfl) rfl (.g (x:=.d (cI y4.2)) 0 2 ⟨aL.g (cC rfl rfl),aL.g (cC rfl rfl),aL.g (cC rfl rfl),trivial⟩ rfl (by kernel_rfl) rfl (.v (x:=.ref 6 0) 0 (gI Om rfl) rfl rfl rfl rfl (.u 1 (s7 rfl rfl rfl rfl (zae rfl) sW) rfl rfl rfl rfl (.nil rfl ?_)))))))))))));show cn _ _ _ _ _ _ (_::_) _ _ _;obtain ⟨y5,sH,H⟩:=ae H;obtain ⟨y6,xW,H⟩:=ae H;refine .A 24 [.d (.agg (bw.row y5)),.d (.agg (bw.row (⟨2,1,0,0,1,0⟩:bw))),.b (!(dO (bw.bJ y5) (bw.bJ (⟨2,1,0,0,1,0⟩:bw)))),.d (.agg (bw.row y6)),.d (.agg (bw.row (⟨2,1,1,0,0,0⟩:bw))),.b (!(dO (bw.bJ y6) (bw.bJ (⟨2,1,1,0,0,0⟩:bw))))] rfl ⟨rfl,λhg=>aL.g (rF RO rfl rfl (xs:=bw.bJ y6) (ys:=bw.bJ (⟨2,1,1,0,0,0⟩:bw)) rfl rfl rfl rfl),rfl,rfl,λhg=>aL.g (br Oi P6 P7 rfl rfl),λhg=>av (en 88 rfl) rfl rfl (bB (aO xW hg)),rfl,rfl,λhg=>aL.g (rF RO rfl rfl (xs:=bw.bJ y5) (ys:=bw.bJ (⟨2,1,0,0,1,0⟩:bw)) rfl rfl rfl rfl),rfl,rfl,λhg=>aL.g (br Oi P6 P7 rfl rfl),λhg=>av (en 88 rfl) rfl rfl (bB (aO sH hg)),rfl,rfl,rfl⟩ (.ite H rfl (λH=>?_) (λH=>?_))
 ·refine .E 4 rfl (.R func10 results10 rfl ?_);cases H;exact .m rfl (.ak _)
 ·refine .E 2 rfl ?_;obtain ⟨y7,J5,H⟩:=ae H;obtain ⟨y8,Oq,H⟩:=ae H;refine let z0:dD:=.row 58 [.d (cI 1),.d (cI 1),.d (cI 2),.d (cS ([49]:List UInt8)),.d (cS ([50]:List UInt8)),.d (cI 20),.d (cI 1),.d (cI 0),.d (cI 0),.d (cB false),.d (cI 0),.d (cB false)];let z1:dD:=.row 58 [.d (cI 1),.d (cI 2),.d (cI 2),.d (cS ([51]:List UInt8)),.d (cS ([50]:List UInt8)),.d (cI 20),.d (cI 1),.d (cI 0),.d (cI 0),.d (cB false),.d (cI 0),.d (cB false)];let z2:dD:=.row 58 [.d (cI 1),.d (cI 1),.d (cI 2),.d (cS ([49]:List UInt8)),.d (cS ([50]:List UInt8)),.d (cI 20),.d (cI 1),.d (cI 5),.d (cI 1),.d (cB false),.d (cI 0),.d (cB false)];let z3:dD:=.row 58 [.d (cI 1),.d (cI 2),.d (cI 2),.d (cS ([49]:List UInt8)),.d (cS ([50]:List UInt8)),.d (cI 20),.d (cI 1),.d (cI 5),.d (cI 2),.d (cB true),.d (cI 0),.d (cB false)];.tb 4 3 [⟨[z0,z1,z2,z3,.row 40 [.d (cI 0),.d (cI 100)],ag.o30 y2.1,ag.o30 y4.1],[]⟩,⟨[z0,z1,z2,z3,.row 40 [.d (cI 0),.d (cI 100)],ag.o30 y2.1,ag.o30 y4.1,.row 30 [.d bd,.d bd,.d bd,.d bd,.d bd,.d bd]],[]⟩] oc (by kernel_rfl) (by decide) rfl ?_;show kZ _ _ _ _ _ _ _ _ _ _ (_::_) _ _;refine .g (x:=.d (aj 7 Event.row y7)) 0 1 ⟨(av (en 89 rfl) rfl rfl (lR J5)),(av (en 89 rfl) rfl rfl (lR J5)),trivial⟩ rfl (by kernel_rfl) rfl (.g (x:=.d (.agg (ag.row y2.1))) 0 1 ⟨aL.g (bP p8 sW rfl rfl (zae rfl) rfl),aL.g (bP p8 sW rfl rfl (zae rfl) rfl),trivial⟩ rfl (by kernel_rfl) rfl (.g (x:=.d (.agg (ag.row y8))) 0 1 ⟨(av (en 91 rfl) rfl rfl (kU Oq)),(av (en 91 rfl) rfl rfl (kU Oq)),trivial⟩ rfl (by kernel_rfl) rfl (.v (x:=.ref 7 0) 0 (gI Om rfl) rfl rfl rfl rfl (.nil rfl ?_))));show cn _ _ _ _ _ _ (_::_) _ _ _;obtain ⟨cU,dj,H⟩:=ck2 H;obtain ⟨y9,P1,H⟩:=ae H;obtain ⟨eL,H⟩:=au H;refine .A 50 [.i (y8.usages.length:Int),.d (.ro (aE.row (nth y8.usages (Int.toNat (1))))),.d (.ro (aE.row (nth y8.usages (Int.toNat (1))))),.i (y8.aB.length:Int),.b y9,.i (y4.1.usages.length:Int),.d (.ro (aE.row (nth y4.1.usages (Int.toNat (0)))))] rfl ⟨rfl,rfl,rfl,rfl,λhg=>Cl.ix rfl rfl rfl (eL hg),rfl,rfl,rfl,rfl,λhg=>Cl.n rfl rfl,rfl,rfl,rfl,λhg=>av (en 92 rfl) rfl rfl (kV (aO P1 hg)),rfl,rfl,rfl,λhg=>ir.n rfl rfl,rfl,rfl,rfl,rfl,rfl,rfl,λhg=>Cl.ix rfl rfl rfl (dj hg),rfl,rfl,rfl,rfl,rfl,rfl,λhg=>Cl.ix rfl rfl rfl (cU hg),rfl,rfl,Cl.n rfl rfl⟩ (.R func10 results10 rfl ?_);cases H;exact .m rfl (.ak _)
theorem Jm {mU:List Head} {vW tU r:Int} (H:rf mU vW tU=some r):aF prog 103 [aj 4 Head.row mU,cI vW,cI tU] (·=cI r):=by
 refine aF.aZ func103 rfl ntmps103 rfl λS hS=>?_
 unfold rf at H;refine .E 14 rfl (.lp H (λ⟨HN,eo⟩=>[(0,.d (aj 4 Head.row mU)),(1,.d (cI vW)),(2,.d (cI tU)),(7,.d (cI HN)),(8,.d (cI eo))]) (λ⟨HN,eo⟩=>⟨[],[]⟩) (.k5 rfl rfl rfl rfl rfl (.nil)) rfl ?_);rintro ⟨HN,eo⟩ q1 H bF
 dsimp only at H
 unfold rK at H;refine .E 7 rfl (.ite H rfl (λH=>?_) (λH=>?_))
 ·obtain ⟨cU,H⟩:=au H;refine .A 13 [.d (.ro (Head.row (nth mU eo.toNat)))] rfl (DV.ix rfl rfl rfl cU) (.ite H rfl (λH=>?_) (λH=>?_))
  ·obtain ⟨dj,eL,iJ,H⟩:=ck3 H;refine .A 15 [.d (.ro (Head.row (nth mU eo.toNat))),.i (((nth mU eo.toNat).number)+1),.i (eo+1)] rfl ⟨aJ rfl rfl iJ,aJ rfl rfl eL,DV.ix rfl rfl rfl dj⟩ ?_;cases H;exact .z bF rfl rfl
  ·obtain ⟨my,H⟩:=au H;refine .A 7 [.i (eo+1)] rfl (aJ rfl rfl my) ?_;cases H;exact .z bF rfl rfl
 ·refine .E 6 rfl (.R func103 results103 rfl ?_);cases H;cases bF;exact .m rfl (.ak _)
theorem G1 {v0:aI} {r:Bool} (H:sb v0=some r):aF prog 58 [.agg (aI.row v0)] (·=cB r):=by
 refine aF.aZ func58 rfl ntmps58 rfl λS hS=>?_
 unfold sb at H;refine .A 11 [.r 0] rfl trivial (.lp H (λbI=>[(1,.ref 0 0),(3,.d (cI bI))]) (λbI=>⟨[aI.o26 v0],[]⟩) (.k2 rfl rfl (.nil)) rfl ?_);rintro bI q1 H bF;unfold nA at H;refine .A 9 [.i (v0.aK.length:Int)] rfl (DV.n rfl rfl) (.ite H rfl (λH=>?_) (λH=>?_))
 ·obtain ⟨cU,H⟩:=au H;obtain ⟨y1,cZ,H⟩:=ae H;refine .A 66 [.d (.ro (Head.row (nth v0.aK bI.toNat))),.r 1,.p 49,.i y1] rfl ⟨rfl,rfl,rfl,rfl,rfl,rfl,rfl,rfl,rfl,rfl,rfl,rfl,rfl,rfl,rfl,λhg=>av (en 93 rfl) rfl rfl (Jm (aO cZ hg)),rfl,rfl,rfl,rfl,rfl,rfl,rfl,rfl,rfl,rfl,rfl,rfl,rfl,rfl,rfl,(show ct _ _=true by kernel_rfl),DV.ix rfl rfl rfl cU⟩ (.ite H rfl (λH=>?_) (λH=>?_))
  ·refine .E 4 rfl (.R func58 results58 rfl ?_);cases H;cases bF;exact .m rfl (.ak _)
  ·obtain ⟨dj,H⟩:=au H;refine .A 7 [.i (bI+1)] rfl (aJ rfl rfl dj) ?_;cases H;exact .t 1 0 bF rfl rfl rfl rfl rfl hS rfl
 ·refine .E 5 rfl (.R func58 results58 rfl ?_);cases H;cases bF;exact .m rfl (.ak _)
theorem rA {nk nm:Int} {r:Bool} (H:jB nk nm=some r):aF prog 64 [cI nk,cI nm] (·=cB r):=by
 refine aF.aZ func64 rfl ntmps64 rfl λS hS=>?_
 unfold jB at H;refine .A 22 [] rfl ⟨rfl,rfl,rfl,rfl,rfl,rfl⟩ (.R func64 results64 rfl ?_);cases H;exact .m rfl (.ak _)
theorem G2 {v0:List Range} {r:Bool} (H:sd v0=some r):aF prog 59 [aj 3 Range.row v0] (·=cB r):=by
 refine aF.aZ func59 rfl ntmps59 rfl λS hS=>?_
 unfold sd at H;refine .E 10 rfl (.lp H (λbI=>[(0,.d (aj 3 Range.row v0)),(3,.d (cI bI))]) (λbI=>⟨[],[]⟩) (.k2 rfl rfl (.nil)) rfl ?_);rintro bI q1 H bF;unfold nB at H;refine .A 8 [.i (v0.length:Int)] rfl (zd.n rfl rfl) (.ite H rfl (λH=>?_) (λH=>?_))
 ·obtain ⟨cU,H⟩:=au H;obtain ⟨y1,cZ,H⟩:=ae H;obtain ⟨y2,fU,H⟩:=ae H;refine .A 37 [.d (.ro (Range.row (nth v0 bI.toNat))),.r 0,.b y1,.b y2] rfl ⟨rfl,rfl,rfl,rfl,rfl,rfl,rfl,λhg=>av (en 94 rfl) rfl rfl (rA (aO fU hg)),rfl,rfl,rfl,rfl,av (en 94 rfl) rfl rfl (rA cZ),zd.ix rfl rfl rfl cU⟩ (.ite H rfl (λH=>?_) (λH=>?_))
  ·refine .E 4 rfl (.R func59 results59 rfl ?_);cases H;cases bF;exact .m rfl (.ak _)
  ·obtain ⟨dj,eL,iJ,my,sx,xK,D9,H⟩:=ck7 H;refine .C 36 [.p 36,.i (bI-1),.d (.ro (Range.row (nth v0 (bI-1).toNat))),.i (bI-1),.d (.ro (Range.row (nth v0 (bI-1).toNat))),.i (bI-1),.d (.ro (Range.row (nth v0 (bI-1).toNat))),.i (((nth v0 (bI-1).toNat).ia)+1)] rfl ⟨rfl,rfl,rfl,λhg=>aJ rfl rfl (D9 hg),rfl,rfl,rfl,λhg=>zd.ix rfl rfl rfl (xK hg),rfl,rfl,λhg=>iF rfl rfl (sx hg),rfl,rfl,rfl,rfl,rfl,rfl,rfl,λhg=>zd.ix rfl rfl rfl (my hg),rfl,rfl,λhg=>iF rfl rfl (iJ hg),rfl,rfl,rfl,rfl,rfl,rfl,rfl,λhg=>zd.ix rfl rfl rfl (eL hg),rfl,rfl,λhg=>iF rfl rfl (dj hg),rfl,(show ct _ _=true by kernel_rfl)⟩ (.ib (env':=[(58,_),(68,_)]) rfl rfl rfl ⟨.inr (.inl rfl),⟨.inr (.inr ⟨_,_,rfl,rfl⟩),trivial⟩⟩ rfl (λhg=>aL.g (dE rfl rfl rfl)) (.ib (env':=[(48,_),(69,_)]) rfl rfl rfl ⟨.inr (.inl rfl),⟨.inr (.inr ⟨_,_,rfl,rfl⟩),trivial⟩⟩ rfl (λhg=>aL.g (vN rfl rfl rfl)) (.A 3 [] rfl rfl (.ite H rfl (λH=>?_) (λH=>?_)))))
   ·refine .E 4 rfl (.R func59 results59 rfl ?_);cases H;cases bF;exact .m rfl (.ak _)
   ·obtain ⟨Nc,H⟩:=au H;refine .A 7 [.i (bI+1)] rfl (aJ rfl rfl Nc) ?_;cases H;exact .t 0 0 bF rfl rfl rfl rfl rfl hS rfl
 ·refine .E 5 rfl (.R func59 results59 rfl ?_);cases H;cases bF;exact .m rfl (.ak _)
theorem nU {zz On I7:Int} {r:Bool} (H:nC zz On I7=some r):aF prog 108 [cI zz,cI On,cI I7] (·=cB r):=by
 refine aF.aZ func108 rfl ntmps108 rfl λS hS=>?_
 unfold nC at H;refine .A 16 [] rfl ⟨rfl,rfl,rfl⟩ (.R func108 results108 rfl ?_);cases H;exact .m rfl (.ak _)
theorem vz {cm:List UInt8} {r:Bool} (H:nE cm=some r):aF prog 109 [cS cm] (·=cB r):=by
 refine aF.aZ func109 rfl ntmps109 rfl λS hS=>?_
 unfold nE at H;refine .E 9 rfl (.bQ (ι:=Unit) (λ_=>[(0,.d (cS cm))]) (λ_=>⟨[],[]⟩) (λs=>nD cm=some r) ?_ ?_)
 ·rintro _ H;replace H:nD cm=some r:=H;unfold nD at H;refine .A 12 [.i (cm.length:Int),.i (cm.length:Int)] rfl ⟨rfl,rfl,λhg=>aL.g (pC underlying9 rfl),rfl,aL.g (pC underlying9 rfl)⟩ (.R func109 results109 rfl ?_);cases H;exact .m rfl (.ak _)
 ·intro qN gw;refine .lp H (λbC=>[(0,.d (cS cm)),(3,.d (cI bC))]) (λbC=>⟨[],[]⟩) (.k2 rfl rfl (.nil)) rfl ?_;rintro bC q1 H bF;unfold qn at H;refine .A 8 [.i (cm.length:Int)] rfl (aL.g (pC underlying9 rfl)) (.ite H rfl (λH=>?_) (λH=>?_))
  ·obtain ⟨cU,dj,H⟩:=ck2 H;refine .A 16 [.c (nth cm bC.toNat),.b (decide ((nth cm bC.toNat)<48)),.c (nth cm bC.toNat),.b (decide ((nth cm bC.toNat) > 57))] rfl ⟨rfl,λhg=>aL.g (Iz (a:=nth cm bC.toNat) (b:=57) rfl rfl),rfl,λhg=>aL.g (oP (i:=bC) underlying9 rfl rfl (dj hg)),rfl,rfl,aL.g (Iy (a:=nth cm bC.toNat) (b:=48) rfl rfl),aL.g (oP (i:=bC) underlying9 rfl rfl cU)⟩ (.ite H rfl (λH=>?_) (λH=>?_))
   ·refine .E 4 rfl (.R func109 results109 rfl ?_);cases H;cases bF;exact .m rfl (.ak _)
   ·obtain ⟨eL,H⟩:=au H;refine .A 7 [.i (bC+1)] rfl (aJ rfl rfl eL) ?_;cases H;exact .z bF rfl rfl
  ·refine .E 1 rfl ?_;obtain ⟨q0,H9,mW⟩:=ca H;clear H;cases mW;cases bF;have H:=H9;exact .z (gw () H) rfl rfl
theorem G3 {v0:aa} {r:Int} (H:se v0=some r):aF prog 63 [.agg (aa.row v0)] (·=cI r):=by
 refine aF.aZ func63 rfl ntmps63 rfl λS hS=>?_
 unfold se at H;obtain ⟨y1,cZ,H⟩:=ae H;obtain ⟨y2,fU,H⟩:=ae H;refine .A 21 [.r 0,.b y1,.b y2] rfl ⟨rfl,rfl,λhg=>av (en 95 rfl) rfl rfl (nU (aO fU hg)),rfl,rfl,av (en 95 rfl) rfl rfl (nU cZ)⟩ (.ite H rfl (λH=>?_) (λH=>?_))
 ·refine .E 4 rfl (.R func63 results63 rfl ?_);cases H;exact .m rfl (.ak _)
 ·obtain ⟨y3,jR,H⟩:=ae H;refine .A 8 [.b y3] rfl (av (en 95 rfl) rfl rfl (nU jR)) (.ite H rfl (λH=>?_) (λH=>?_))
  ·refine .E 4 rfl (.R func63 results63 rfl ?_);cases H;exact .m rfl (.ak _)
  ·obtain ⟨y4,oB,H⟩:=ae H;refine .A 8 [.b y4] rfl (av (en 96 rfl) rfl rfl (vz oB)) (.ite H rfl (λH=>?_) (λH=>?_))
   ·refine .E 4 rfl (.R func63 results63 rfl ?_);cases H;exact .m rfl (.ak _)
   ·obtain ⟨y5,sH,H⟩:=ae H;refine .B 18 [.b y5] rfl ⟨rfl,rfl,rfl,rfl,rfl,rfl,rfl,rfl,av (en 96 rfl) rfl rfl (vz sH)⟩ (.ib (env':=[(37,_),(40,_)]) rfl rfl rfl ⟨.inr (.inl rfl),⟨.inr (.inr ⟨_,_,rfl,rfl⟩),trivial⟩⟩ rfl (λhg=>aL.g (dE rfl rfl rfl)) (.ib (env':=[(33,_),(41,_)]) rfl rfl rfl ⟨.inr (.inl rfl),⟨.inr (.inr ⟨_,_,rfl,rfl⟩),trivial⟩⟩ rfl (λhg=>aL.g (vN rfl rfl rfl)) (.A 3 [] rfl rfl (.ite H rfl (λH=>?_) (λH=>?_)))))
    ·refine .E 4 rfl (.R func63 results63 rfl ?_);cases H;exact .m rfl (.ak _)
    ·obtain ⟨y6,xW,H⟩:=ae H;refine .A 8 [.b y6] rfl (av (en 95 rfl) rfl rfl (nU xW)) (.ite H rfl (λH=>?_) (λH=>?_))
     ·refine .E 4 rfl (.R func63 results63 rfl ?_);cases H;exact .m rfl (.ak _)
     ·obtain ⟨y7,J5,H⟩:=ae H;refine .B 14 [.b y7] rfl ⟨rfl,rfl,rfl,rfl,rfl,av (en 95 rfl) rfl rfl (nU J5)⟩ (.ib (env':=[(58,_),(61,_)]) rfl rfl rfl ⟨.inr (.inl rfl),⟨.inr (.inr ⟨_,_,rfl,rfl⟩),trivial⟩⟩ rfl (λhg=>aL.g (dE rfl rfl rfl)) (.A 3 [] rfl rfl (.ite H rfl (λH=>?_) (λH=>?_))))
      ·refine .E 4 rfl (.R func63 results63 rfl ?_);cases H;exact .m rfl (.ak _)
      ·obtain ⟨cU,H⟩:=au H;refine .A 15 [.i (v0.start+v0.cz)] rfl ⟨rfl,rfl,λhg=>aJ rfl rfl (cU hg),rfl,rfl,rfl,rfl⟩ (.ite H rfl (λH=>?_) (λH=>?_))
       ·refine .E 4 rfl (.R func63 results63 rfl ?_);cases H;exact .m rfl (.ak _)
       ·obtain ⟨y8,Oq,H⟩:=ae H;obtain ⟨y9,P1,H⟩:=ae H;refine .A 14 [.b y8,.b y9] rfl ⟨rfl,rfl,λhg=>av (en 95 rfl) rfl rfl (nU (aO P1 hg)),rfl,rfl,av (en 95 rfl) rfl rfl (nU Oq)⟩ (.ite H rfl (λH=>?_) (λH=>?_))
        ·refine .E 4 rfl (.R func63 results63 rfl ?_);cases H;exact .m rfl (.ak _)
        ·refine .B 16 [.b ((v0.part==0) != (v0.call==0))] rfl ⟨rfl,rfl,rfl,rfl,aL.g (ET rfl underlying4 rfl)⟩ (.ib (env':=[(98,_),(101,_)]) rfl rfl rfl ⟨.inr (.inl rfl),⟨.inr (.inr ⟨_,_,rfl,rfl⟩),trivial⟩⟩ rfl (λhg=>aL.g (dE rfl rfl rfl)) (.A 3 [] rfl rfl (.ite H rfl (λH=>?_) (λH=>?_))))
         ·refine .E 4 rfl (.R func63 results63 rfl ?_);cases H;exact .m rfl (.ak _)
         ·obtain ⟨Fx,Jh,H⟩:=ae H;refine .A 8 [.b Fx] rfl (av (en 95 rfl) rfl rfl (nU Jh)) (.ite H rfl (λH=>?_) (λH=>?_))
          ·refine .E 4 rfl (.R func63 results63 rfl ?_);cases H;exact .m rfl (.ak _)
          ·refine .A 11 [] rfl ⟨rfl,rfl,rfl⟩ (.ite H rfl (λH=>?_) (λH=>?_))
           ·refine .E 4 rfl (.R func63 results63 rfl ?_);cases H;exact .m rfl (.ak _)
           ·refine .E 6 rfl (.R func63 results63 rfl ?_);cases H;exact .m rfl (.ak _)
theorem pj {pF:aa} {r:Int} (H:il pF=some r):aF prog 33 [.agg (aa.row pF)] (·=cI r):=by
 refine aF.aZ func33 rfl ntmps33 rfl λS hS=>?_
 unfold il at H;obtain ⟨y1,cZ,H⟩:=ae H;refine .A 11 [.r 0,.i y1] rfl (av (en 97 rfl) rfl rfl (G3 cZ)) (.R func33 results33 rfl ?_);cases H;exact .m rfl (.ak _)
theorem FU {fu gz:aa} {r:Bool} (H:qo fu gz=some r):aF prog 104 [.agg (aa.row fu),.agg (aa.row gz)] (·=cB r):=by
 refine aF.aZ func104 rfl ntmps104 rfl λS hS=>?_
 unfold qo at H;refine .A 15 [.r 0,.r 1] rfl trivial (.ite H rfl (λH=>?_) (λH=>?_))
 ·refine .E 9 rfl (.R func104 results104 rfl ?_);cases H;exact .m rfl (.ak _)
 ·refine .E 10 rfl (.ite H rfl (λH=>?_) (λH=>?_))
  ·refine .E 9 rfl (.R func104 results104 rfl ?_);cases H;exact .m rfl (.ak _)
  ·refine .E 10 rfl (.R func104 results104 rfl ?_);cases H;exact .m rfl (.ak _)
theorem BR {fu gz:aa} {r:Bool} (H:rh fu gz=some r):aF prog 145 [.agg (aa.row fu),.agg (aa.row gz)] (·=cB r):=by
 refine aF.aZ func145 rfl ntmps145 rfl λS hS=>?_
 unfold rh at H;refine .A 22 [.r 0,.r 1] rfl ⟨rfl,rfl,rfl,rfl,rfl⟩ (.R func145 results145 rfl ?_);cases H;exact .m rfl (.ak _)
theorem FV {jT:List aa} {sG:aa} {ri:Bool} {r:(List Int)} (H:qp jT sG ri=some r):aF prog 106 [aj 12 aa.row jT,.agg (aa.row sG),cB ri] (·=aj 1 rI r):=by
 obtain ⟨i3,vq,xJ,zF,GR⟩:=Bu;refine aF.aZ func106 rfl ntmps106 rfl λS hS=>?_
 unfold qp at H;refine .A 15 [.r 0] rfl trivial (.tok (i:=7) (e:=3) (sz:=1) rfl (.lp H (λ⟨mg,eo⟩=>[(0,.d (aj 12 aa.row jT)),(2,.d (cB ri)),(4,.ref 0 0),(7,.cY 1 (mg.map rI) 0),(8,.d (cI eo))]) (λ⟨mg,eo⟩=>⟨[aa.o58 sG],[HL mg.length]⟩) (.k5 rfl rfl rfl rfl rfl (.nil)) rfl ?_));rintro ⟨mg,eo⟩ q1 H bF
 dsimp only at H
 unfold pB at H;refine .A 8 [.i (jT.length:Int)] rfl (ir.n rfl rfl) (.ite H rfl (λH=>?_) (λH=>?_))
 ·obtain ⟨cU,H⟩:=au H;obtain ⟨y1,cZ,H⟩:=ae H;obtain ⟨dj,eL,H⟩:=ck2 H;refine .A 24 [.p 17,.d (.ro (aa.row (nth jT eo.toNat))),.b y1,.d (.ro (aa.row (nth jT eo.toNat))),.i (mg.length:Int),.i ((mg.length:Int)+1)] rfl ⟨rfl,rfl,rfl,λhg=>aJ rfl rfl (eL hg),rfl,λhg=>sK.n rfl rfl,rfl,rfl,rfl,λhg=>ir.ix rfl rfl rfl (dj hg),rfl,rfl,av (en 98 rfl) rfl rfl (BR cZ),ir.ix rfl rfl rfl cU,(show ct _ _=true by kernel_rfl)⟩ (.ite H rfl (λH=>?_) (λH=>?_))
  ·obtain ⟨iJ,my,H⟩:=ck2 H;refine .A 19 [.d (aj 1 rI ([eo]:List Int)),.a 0 3 1 rI (mg++([eo]:List Int)),.d (.ro (aa.row (nth jT eo.toNat)))] rfl ⟨rfl,rfl,rfl,λhg=>ir.ix rfl rfl rfl (my hg),rfl,rfl,sK.a rfl rfl rfl rfl iJ,bp underlying121 vq zF xJ rfl rfl rfl rfl rfl⟩ (.ite H rfl (λH=>?_) (λH=>?_))
   ·refine .E 6 rfl (.R func106 results106 rfl ?_);cases H;cases bF;exact .m rfl (.cY _ _ _)
   ·obtain ⟨sx,H⟩:=au H;refine .A 7 [.i (eo+1)] rfl (aJ rfl rfl sx) ?_;cases H;exact .z bF rfl rfl
  ·obtain ⟨xK,H⟩:=au H;refine .A 7 [.i (eo+1)] rfl (aJ rfl rfl xK) ?_;cases H;exact .z bF rfl rfl
 ·refine .E 6 rfl (.R func106 results106 rfl ?_);cases H;cases bF;exact .m rfl (.cY _ _ _)
theorem Jn {aN:List aa} {lr:List Int} {r:(List aa)×(List aa)} (H:tV aN lr=some r):aF prog 105 [aj 12 aa.row aN,aj 1 rI lr] (·=.eF [aj 12 aa.row r.1,aj 12 aa.row r.2]):=by
 obtain ⟨i58,fF,iq,iv,th⟩:=iY;refine aF.aZ func105 rfl ntmps105 rfl λS hS=>?_
 unfold tV at H;refine .E 20 rfl (.tok (i:=6) (e:=58) (sz:=12) rfl (.tok (i:=7) (e:=58) (sz:=12) rfl (.lp H (λ⟨dM,o6,uX,fm⟩=>[(0,.d (aj 12 aa.row aN)),(1,.d (aj 1 rI lr)),(6,.cY 12 (dM.map aa.row) 0),(7,.cY 12 (o6.map aa.row) 1),(8,.d (cI uX)),(9,.d (cI fm))]) (λ⟨dM,o6,uX,fm⟩=>⟨[],[bq dM.length,bq o6.length]⟩) (.k6 rfl rfl rfl rfl rfl rfl (.nil)) rfl ?_)));rintro ⟨dM,o6,uX,fm⟩ q1 H bF
 dsimp only at H
 unfold rL at H;refine .A 8 [.i (aN.length:Int)] rfl (ir.n rfl rfl) (.ite H rfl (λH=>?_) (λH=>?_))
 ·obtain ⟨cU,H⟩:=au H;refine .A 18 [.i (lr.length:Int),.d (.ro (rI (nth lr uX.toNat)))] rfl ⟨rfl,rfl,rfl,rfl,λhg=>sK.ix rfl rfl rfl (cU hg),rfl,rfl,sK.n rfl rfl⟩ (.ite H rfl (λH=>?_) (λH=>?_))
  ·obtain ⟨dj,eL,iJ,my,H⟩:=ck4 H;refine .A 22 [.d (.ro (aa.row (nth aN fm.toNat))),.d (aj 12 aa.row ([nth aN fm.toNat]:List aa)),.a 0 58 12 aa.row (dM++([nth aN fm.toNat]:List aa)),.i (uX+1),.i (fm+1)] rfl ⟨aJ rfl rfl my,aJ rfl rfl iJ,ir.a rfl rfl rfl rfl eL,bp underlying23 fF iv iq rfl rfl rfl rfl rfl,ir.ix rfl rfl rfl dj⟩ ?_;cases H;exact .z bF rfl rfl
  ·obtain ⟨sx,xK,D9,H⟩:=ck3 H;refine .A 16 [.d (.ro (aa.row (nth aN fm.toNat))),.d (aj 12 aa.row ([nth aN fm.toNat]:List aa)),.a 1 58 12 aa.row (o6++([nth aN fm.toNat]:List aa)),.i (fm+1)] rfl ⟨aJ rfl rfl D9,ir.a rfl rfl rfl rfl xK,bp underlying23 fF iv iq rfl rfl rfl rfl rfl,ir.ix rfl rfl rfl sx⟩ ?_;cases H;exact .z bF rfl rfl
 ·refine .E 8 rfl (.R func105 results105 rfl ?_);cases H;cases bF;exact .m rfl (.vM ⟨.cY _ _ _,.cY _ _ _,trivial⟩)
theorem G4 {v0:List aa} {r:aa×Bool} (H:pN v0=some r):aF prog 147 [aj 12 aa.row v0] (·=.eF [.agg (aa.row r.1),cB r.2]):=by
 obtain ⟨i58,fF,iq,iv,th⟩:=iY;refine aF.aZ func147 rfl ntmps147 rfl λS hS=>?_
 unfold pN at H;refine .A 14 [.r 0,.r 1] rfl trivial (.bQ (ι:=Int×Int×Int×List UInt8×List UInt8×Int×Int×Int×Bool) (λ⟨ln,CJ,CK,CL,CM,CN,qh,zf,zg⟩=>[(0,.d (aj 12 aa.row v0)),(2,.ref 0 0),(4,.ref 1 0)]) (λ⟨ln,CJ,CK,CL,CM,CN,qh,zf,zg⟩=>⟨[.row 58 [.d (cI 0),.d (cI 0),.d (cI 0),.d (cS ([]:List UInt8)),.d (cS ([]:List UInt8)),.d (cI 0),.d (cI 0),.d (cI 0),.d (cI 0),.d (cB false),.d (cI 0),.d (cB false)],.row 58 [.d (cI ln),.d (cI CJ),.d (cI CK),.d (cS CL),.d (cS CM),.d (cI CN),.d (cI qh),.d (cI 0),.d (cI 0),.d (cB false),.d (cI zf),.d (cB zg)]],[]⟩) (λs=>nF v0 s.1 s.2.1 s.2.2.1 s.2.2.2.1 s.2.2.2.2.1 s.2.2.2.2.2.1 s.2.2.2.2.2.2.1 s.2.2.2.2.2.2.2.1 s.2.2.2.2.2.2.2.2=some r) ?_ ?_)
 ·rintro ⟨ln,CJ,CK,CL,CM,CN,qh,zf,zg⟩ H;replace H:nF v0 ln CJ CK CL CM CN qh zf zg=some r:=H;unfold nF at H;refine .A 9 [.i (v0.length:Int)] rfl (ir.n rfl rfl) (.R func147 results147 rfl ?_);cases H;exact .m rfl (.mm rfl)
 ·intro qN gw;refine .lp H (λ⟨sN,cE,qs,qt,CO,CP,qk,fB,zh,zi⟩=>[(0,.d (aj 12 aa.row v0)),(2,.ref 0 0),(4,.ref 1 0),(5,.d (cI sN))]) (λ⟨sN,cE,qs,qt,CO,CP,qk,fB,zh,zi⟩=>⟨[.row 58 [.d (cI 0),.d (cI 0),.d (cI 0),.d (cS ([]:List UInt8)),.d (cS ([]:List UInt8)),.d (cI 0),.d (cI 0),.d (cI 0),.d (cI 0),.d (cB false),.d (cI 0),.d (cB false)],.row 58 [.d (cI cE),.d (cI qs),.d (cI qt),.d (cS CO),.d (cS CP),.d (cI qk),.d (cI fB),.d (cI 0),.d (cI 0),.d (cB false),.d (cI zh),.d (cB zi)]],[]⟩) (.k4 rfl rfl rfl rfl (.nil)) rfl ?_;rintro ⟨sN,cE,qs,qt,CO,CP,qk,fB,zh,zi⟩ q1 H bF
  dsimp only at H
  unfold qq at H;refine .A 8 [.i (v0.length:Int)] rfl (ir.n rfl rfl) (.ite H rfl (λH=>?_) (λH=>?_))
  ·obtain ⟨cU,H⟩:=au H;obtain ⟨y1,cZ,H⟩:=ae H;refine .A 24 [.d (.ro (aa.row (nth v0 sN.toNat))),.r 2,.i y1] rfl ⟨rfl,rfl,λhg=>av (en 99 rfl) rfl rfl (pj (aO cZ hg)),rfl,ir.ix rfl rfl rfl cU⟩ (.ite H rfl (λH=>?_) (λH=>?_))
   ·refine .A 6 [.d (.agg (aa.row kq6))] rfl (aL.g (br yn fF iq rfl rfl)) (.R func147 results147 rfl ?_);cases H;cases bF;exact .m rfl (.mm rfl)
   ·obtain ⟨dj,eL,H⟩:=ck2 H;obtain ⟨y2,fU,H⟩:=ae H;refine .A 61 [.i (fB+((nth v0 sN.toNat).cz)),.d (.ro (aa.row (nth v0 (Int.toNat (0))))),.r 3,.b y2,.b ((nth v0 sN.toNat).bT != (nth v0 (Int.toNat (0))).bT)] rfl ⟨rfl,λhg=>aL.g (ET rfl underlying4 rfl),rfl,rfl,rfl,rfl,rfl,rfl,rfl,rfl,rfl,rfl,rfl,rfl,rfl,rfl,rfl,rfl,rfl,rfl,rfl,rfl,rfl,rfl,rfl,rfl,av (en 98 rfl) rfl rfl (BR fU),ir.ix rfl rfl rfl eL,aJ rfl rfl dj⟩ (.ite H rfl (λH=>?_) (λH=>?_))
    ·refine .A 6 [.d (.agg (aa.row kq6))] rfl (aL.g (br yn fF iq rfl rfl)) (.R func147 results147 rfl ?_);cases H;cases bF;exact .m rfl (.mm rfl)
    ·obtain ⟨y3,jR,H⟩:=ae H;refine .A 33 [.i y3] rfl (av (en 99 rfl) rfl rfl (pj jR)) (.ite H rfl (λH=>?_) (λH=>?_))
     ·refine .A 6 [.d (.agg (aa.row kq6))] rfl (aL.g (br yn fF iq rfl rfl)) (.R func147 results147 rfl ?_);cases H;cases bF;exact .m rfl (.mm rfl)
     ·obtain ⟨iJ,H⟩:=au H;refine .A 7 [.i (sN+1)] rfl (aJ rfl rfl iJ) ?_;cases H;exact .t 2 0 bF rfl rfl rfl rfl rfl hS rfl
  ·refine .E 1 rfl ?_;obtain ⟨q0,H9,mW⟩:=ca H;clear H;cases mW;cases bF;have H:=H9;exact .z (gw (cE,qs,qt,CO,CP,qk,fB,zh,zi) H) rfl rfl
theorem C4 {aD:List aa} {r:aa×Bool} (H:nG aD=some r):aF prog 107 [aj 12 aa.row aD] (·=.eF [.agg (aa.row r.1),cB r.2]):=by
 obtain ⟨i58,fF,iq,iv,th⟩:=iY;refine aF.aZ func107 rfl ntmps107 rfl λS hS=>?_
 unfold nG at H;refine .A 10 [.r 0] rfl trivial (.bQ (ι:=Unit) (λ_=>[(0,.d (aj 12 aa.row aD)),(2,.ref 0 0)]) (λ_=>⟨[.row 58 [.d (cI 0),.d (cI 0),.d (cI 0),.d (cS ([]:List UInt8)),.d (cS ([]:List UInt8)),.d (cI 0),.d (cI 0),.d (cI 0),.d (cI 0),.d (cB false),.d (cI 0),.d (cB false)]],[]⟩) (λs=>ki aD=some r) ?_ ?_)
 ·rintro _ H;replace H:ki aD=some r:=H;unfold ki at H;obtain ⟨y1,cZ,H⟩:=ae H;refine .A 9 [.d (.eF [.agg (aa.row y1.1),cB y1.2])] rfl (av (en 100 rfl) rfl rfl (G4 cZ)) (.R func107 results107 rfl ?_);cases H;exact .m rfl (.mm rfl)
 ·intro qN gw;refine .lp H (λcr=>[(0,.d (aj 12 aa.row aD)),(2,.ref 0 0),(4,.d (cI cr))]) (λcr=>⟨[.row 58 [.d (cI 0),.d (cI 0),.d (cI 0),.d (cS ([]:List UInt8)),.d (cS ([]:List UInt8)),.d (cI 0),.d (cI 0),.d (cI 0),.d (cI 0),.d (cB false),.d (cI 0),.d (cB false)]],[]⟩) (.k3 rfl rfl rfl (.nil)) rfl ?_;rintro cr q1 H bF;unfold mV at H;refine .A 8 [.i (aD.length:Int)] rfl (ir.n rfl rfl) (.ite H rfl (λH=>?_) (λH=>?_))
  ·obtain ⟨cU,dj,eL,iJ,H⟩:=ck4 H;refine .A 27 [.d (.ro (aa.row (nth aD cr.toNat))),.i (cr+1),.d (.ro (aa.row (nth aD cr.toNat))),.i (cr+1),.i (aD.length:Int),.b ((nth aD cr.toNat).last != ((cr+1)==(aD.length:Int)))] rfl ⟨rfl,λhg=>aL.g (ET rfl underlying4 rfl),rfl,rfl,rfl,rfl,λhg=>ir.n rfl rfl,rfl,λhg=>aJ rfl rfl (iJ hg),rfl,rfl,rfl,λhg=>ir.ix rfl rfl rfl (eL hg),rfl,rfl,aJ rfl rfl dj,ir.ix rfl rfl rfl cU⟩ (.ite H rfl (λH=>?_) (λH=>?_))
   ·refine .A 6 [.d (.agg (aa.row kq6))] rfl (aL.g (br yn fF iq rfl rfl)) (.R func107 results107 rfl ?_);cases H;cases bF;exact .m rfl (.mm rfl)
   ·obtain ⟨my,H⟩:=au H;refine .A 7 [.i (cr+1)] rfl (aJ rfl rfl my) ?_;cases H;exact .z bF rfl rfl
  ·refine .E 1 rfl ?_;obtain ⟨q0,H9,mW⟩:=ca H;clear H;cases mW;cases bF;have H:=H9;exact .z (gw () H) rfl rfl
theorem Jo {v0:List aa} {r:Bool} (H:tW v0=some r):aF prog 60 [aj 12 aa.row v0] (·=cB r):=by
 refine aF.aZ func60 rfl ntmps60 rfl λS hS=>?_
 unfold tW at H;refine .E 9 rfl (.bQ (ι:=Unit) (λ_=>[(0,.d (aj 12 aa.row v0))]) (λ_=>⟨[],[]⟩) (λs=>mF v0=some r) ?_ ?_)
 ·rintro _ H;replace H:mF v0=some r:=H;unfold mF at H;refine .E 6 rfl (.lp H (λDY=>[(0,.d (aj 12 aa.row v0)),(4,.d (cI DY))]) (λDY=>⟨[],[]⟩) (.k2 rfl rfl (.nil)) rfl ?_);rintro DY q1 H bF;unfold rM at H;refine .A 8 [.i (v0.length:Int)] rfl (ir.n rfl rfl) (.ite H rfl (λH=>?_) (λH=>?_))
  ·obtain ⟨cU,H⟩:=au H;obtain ⟨y1,cZ,H⟩:=ae H;obtain ⟨y2,fU,H⟩:=ae H;obtain ⟨y3,jR,H⟩:=ae H;refine .A 34 [.d (.ro (aa.row (nth v0 DY.toNat))),.d (aj 1 rI y1),.d (.eF [aj 12 aa.row y2.1,aj 12 aa.row y2.2]),.d (.eF [.agg (aa.row y3.1),cB y3.2]),.r 0] rfl ⟨av (en 101 rfl) rfl rfl (C4 jR),av (en 102 rfl) rfl rfl (Jn fU),av (en 103 rfl) rfl rfl (FV cZ),ir.ix rfl rfl rfl cU⟩ (.ite H rfl (λH=>?_) (λH=>?_))
   ·refine .E 4 rfl (.R func60 results60 rfl ?_);cases H;cases bF;exact .m rfl (.ak _)
   ·obtain ⟨dj,H⟩:=au H;refine .A 7 [.i (DY+1)] rfl (aJ rfl rfl dj) ?_;cases H;exact .t 0 0 bF rfl rfl rfl rfl rfl hS rfl
  ·refine .E 5 rfl (.R func60 results60 rfl ?_);cases H;cases bF;exact .m rfl (.ak _)
 ·intro qN gw;obtain ⟨n2,H⟩:=fG H;refine .loop (ι:=Nat×(Int)) (λ⟨_,mw⟩=>[(0,.d (aj 12 aa.row v0)),(3,.d (cI mw))]) (λ⟨_,mw⟩=>⟨[],[]⟩) (λp=>iter (λs=>kC v0 s) p.1 p.2=some r) (·.1) (n2,0) H (.k2 rfl rfl (.nil)) rfl ?_
  rintro ⟨m1,mw⟩ HI FQ;obtain ⟨n1,q1,uH,H,bF⟩:=fH HI;clear HI;replace H:kC v0 mw=some q1:=H;unfold kC at H;refine .A 8 [.i (v0.length:Int)] rfl (ir.n rfl rfl) (.ite H rfl (λH=>?_) (λH=>?_))
  ·obtain ⟨eL,iJ,H⟩:=ck2 H;obtain ⟨y4,oB,H⟩:=ae H;obtain ⟨my,sx,xK,H⟩:=ck3 H;obtain ⟨y5,sH,H⟩:=ae H;refine .C 33 [.p 30,.d (.ro (aa.row (nth v0 mw.toNat))),.d (.ro (aa.row (nth v0 mw.toNat))),.i y4,.d (.ro (aa.row (nth v0 mw.toNat))),.i (mw-1),.d (.ro (aa.row (nth v0 (mw-1).toNat))),.b y5] rfl ⟨λhg=>av (en 104 rfl) rfl rfl (FU (aO sH hg)),rfl,rfl,rfl,λhg=>ir.ix rfl rfl rfl (xK hg),rfl,rfl,λhg=>iF rfl rfl (sx hg),rfl,rfl,λhg=>ir.ix rfl rfl rfl (my hg),rfl,rfl,rfl,rfl,rfl,rfl,λhg=>av (en 99 rfl) rfl rfl (pj (aO oB hg)),rfl,rfl,λhg=>ir.ix rfl rfl rfl (iJ hg),rfl,rfl,ir.ix rfl rfl rfl eL,(show ct _ _=true by kernel_rfl)⟩ (.ib (env':=[(32,_),(42,_)]) rfl rfl rfl ⟨.inr (.inl rfl),⟨.inr (.inr ⟨_,_,rfl,rfl⟩),trivial⟩⟩ rfl (λhg=>aL.g (dE rfl rfl rfl)) (.A 3 [] rfl rfl (.ite H rfl (λH=>?_) (λH=>?_))))
   ·refine .E 4 rfl (.R func60 results60 rfl ?_);cases H;cases bF;exact .m rfl (.ak _)
   ·obtain ⟨D9,H⟩:=au H;refine .A 7 [.i (mw+1)] rfl (aJ rfl rfl D9) ?_;cases H;exact .z (FQ (n1,(mw+1)) bF uH) rfl rfl
  ·refine .E 1 rfl ?_;obtain ⟨q0,H9,mW⟩:=ca H;clear H;cases mW;cases bF;have H:=H9;exact .z (gw () H) rfl rfl
theorem Ee {v0:aI} {r:Bool} (H:o7 v0=some r):aF prog 61 [.agg (aI.row v0)] (·=cB r):=by
 refine aF.aZ func61 rfl ntmps61 rfl λS hS=>?_
 unfold o7 at H;refine .A 11 [.r 0] rfl trivial (.lp H (λbI=>[(1,.ref 0 0),(3,.d (cI bI))]) (λbI=>⟨[aI.o26 v0],[]⟩) (.k2 rfl rfl (.nil)) rfl ?_);rintro bI q1 H bF;unfold rk at H;refine .E 6 rfl (.ite H rfl (λH=>?_) (λH=>?_))
 ·refine .E 12 rfl (.bQ (ι:=Int) (λCG=>[(1,.ref 0 0),(3,.d (cI bI)),(4,.d (cI CG))]) (λCG=>⟨[aI.o26 v0],[]⟩) (λs=>ji v0 bI s=some q1) ?_ ?_)
  ·rintro CG H;replace H:ji v0 bI CG=some q1:=H;unfold ji at H;refine .E 5 rfl (.bQ (ι:=Int) (λPR=>[(1,.ref 0 0),(3,.d (cI bI)),(4,.d (cI PR))]) (λPR=>⟨[aI.o26 v0],[]⟩) (λs=>lB bI s=some q1) ?_ ?_)
   ·rintro PR H;replace H:lB bI PR=some q1:=H;unfold lB at H;refine .E 5 rfl (.ite H rfl (λH=>?_) (λH=>?_))
    ·refine .E 4 rfl (.R func61 results61 rfl ?_);cases H;cases bF;exact .m rfl (.ak _)
    ·obtain ⟨cU,H⟩:=au H;refine .A 7 [.i (bI+1)] rfl (aJ rfl rfl cU) ?_;cases H;exact .z bF rfl rfl
   ·intro FL Ng;refine .lp H (λ⟨GO,vk⟩=>[(1,.ref 0 0),(3,.d (cI bI)),(4,.d (cI GO)),(6,.d (cI vk))]) (λ⟨GO,vk⟩=>⟨[aI.o26 v0],[]⟩) (.k4 rfl rfl rfl rfl (.nil)) rfl ?_;rintro ⟨GO,vk⟩ q2 H Ea
    dsimp only at H
    unfold oi at H;refine .A 9 [.i (v0.aK.length:Int)] rfl (DV.n rfl rfl) (.ite H rfl (λH=>?_) (λH=>?_))
    ·obtain ⟨dj,H⟩:=au H;refine .A 14 [.d (.ro (Head.row (nth v0.aK vk.toNat)))] rfl (DV.ix rfl rfl rfl dj) (.ite H rfl (λH=>?_) (λH=>?_))
     ·obtain ⟨eL,iJ,my,H⟩:=ck3 H;refine .A 17 [.d (.ro (Head.row (nth v0.aK vk.toNat))),.i (GO-((nth v0.aK vk.toNat).count)),.i (vk+1)] rfl ⟨aJ rfl rfl my,iF rfl rfl iJ,DV.ix rfl rfl rfl eL⟩ ?_;cases H;exact .z Ea rfl rfl
     ·obtain ⟨sx,H⟩:=au H;refine .A 7 [.i (vk+1)] rfl (aJ rfl rfl sx) ?_;cases H;exact .z Ea rfl rfl
    ·refine .E 1 rfl ?_;obtain ⟨q0,H9,mW⟩:=ca H;clear H;cases mW;cases Ea;have H:=H9;exact .z (Ng GO H) rfl rfl
  ·intro qN gw;obtain ⟨n3,H⟩:=fG H;refine .loop (ι:=Nat×(Int×Int)) (λ⟨_,AK,om⟩=>[(1,.ref 0 0),(3,.d (cI bI)),(4,.d (cI AK)),(5,.d (cI om))]) (λ⟨_,AK,om⟩=>⟨[aI.o26 v0],[]⟩) (λp=>iter (λs=>gW v0 bI s.1 s.2) p.1 p.2=some q1) (·.1) (n3,(0,0)) H (.k4 rfl rfl rfl rfl (.nil)) rfl ?_
   rintro ⟨m2,AK,om⟩ HI ih2;obtain ⟨n2,q2,Ua,H,Ea⟩:=fH HI;clear HI;replace H:gW v0 bI AK om=some q2:=H;unfold gW at H;refine .A 9 [.i (v0.seen.length:Int)] rfl (zd.n rfl rfl) (.ite H rfl (λH=>?_) (λH=>?_))
   ·obtain ⟨xK,H⟩:=au H;refine .A 14 [.d (.ro (Range.row (nth v0.seen om.toNat)))] rfl (zd.ix rfl rfl rfl xK) (.ite H rfl (λH=>?_) (λH=>?_))
    ·obtain ⟨D9,Nc,FO,Jj,Jk,Nd,H⟩:=ck6 H;refine .A 26 [.p 17,.d (.ro (Range.row (nth v0.seen om.toNat))),.i (AK+((nth v0.seen om.toNat).ia)),.d (.ro (Range.row (nth v0.seen om.toNat))),.i ((AK+((nth v0.seen om.toNat).ia)) - (nth v0.seen om.toNat).from_),.i (((AK+((nth v0.seen om.toNat).ia)) - (nth v0.seen om.toNat).from_)+1),.i (om+1)] rfl ⟨aJ rfl rfl Nd,aJ rfl rfl Jk,iF rfl rfl Jj,zd.ix rfl rfl rfl FO,aJ rfl rfl Nc,zd.ix rfl rfl rfl D9,(show ct _ _=true by kernel_rfl)⟩ ?_;cases H;exact .z (ih2 (n2,(((AK+((nth v0.seen om.toNat).ia)) - (nth v0.seen om.toNat).from_)+1,om+1)) Ea Ua) rfl rfl
    ·obtain ⟨Nf,H⟩:=au H;refine .A 7 [.i (om+1)] rfl (aJ rfl rfl Nf) ?_;cases H;exact .z (ih2 (n2,(AK,om+1)) Ea Ua) rfl rfl
   ·refine .E 1 rfl ?_;obtain ⟨q0,H9,mW⟩:=ca H;clear H;cases mW;cases Ea;have H:=H9;exact .z (gw AK H) rfl rfl
 ·refine .E 5 rfl (.R func61 results61 rfl ?_);cases H;cases bF;exact .m rfl (.ak _)
theorem DJ {aU:List Range} {bU cM:Int} {r:Bool} (H:tA aU bU cM=some r):aF prog 34 [aj 3 Range.row aU,cI bU,cI cM] (·=cB r):=by
 refine aF.aZ func34 rfl ntmps34 rfl λS hS=>?_
 unfold tA at H;refine .E 10 rfl (.lp H (λnH=>[(0,.d (aj 3 Range.row aU)),(1,.d (cI bU)),(2,.d (cI cM)),(7,.d (cI nH))]) (λnH=>⟨[],[]⟩) (.k4 rfl rfl rfl rfl (.nil)) rfl ?_);rintro nH q1 H bF;unfold te at H;refine .A 8 [.i (aU.length:Int)] rfl (zd.n rfl rfl) (.ite H rfl (λH=>?_) (λH=>?_))
 ·obtain ⟨cU,dj,eL,H⟩:=ck3 H;refine .A 31 [.d (.ro (Range.row (nth aU nH.toNat))),.d (.ro (Range.row (nth aU nH.toNat))),.d (.ro (Range.row (nth aU nH.toNat)))] rfl ⟨rfl,rfl,rfl,rfl,rfl,λhg=>zd.ix rfl rfl rfl (eL hg),rfl,rfl,rfl,rfl,rfl,rfl,rfl,λhg=>zd.ix rfl rfl rfl (dj hg),rfl,rfl,zd.ix rfl rfl rfl cU⟩ (.ite H rfl (λH=>?_) (λH=>?_))
  ·obtain ⟨y1,cZ,H⟩:=ae H;refine .A 7 [.b y1] rfl (av (en 94 rfl) rfl rfl (rA cZ)) (.R func34 results34 rfl ?_);cases H;cases bF;exact .m rfl (.ak _)
  ·obtain ⟨iJ,H⟩:=au H;refine .A 7 [.i (nH+1)] rfl (aJ rfl rfl iJ) ?_;cases H;exact .z bF rfl rfl
 ·refine .E 5 rfl (.R func34 results34 rfl ?_);cases H;cases bF;exact .m rfl (.ak _)
theorem G5 {v0:aI} {r:Bool} (H:sf v0=some r):aF prog 31 [.agg (aI.row v0)] (·=cB r):=by
 refine aF.aZ func31 rfl ntmps31 rfl λS hS=>?_
 unfold sf at H;obtain ⟨y1,cZ,H⟩:=ae H;obtain ⟨y2,fU,H⟩:=ae H;obtain ⟨y3,jR,H⟩:=ae H;obtain ⟨y4,oB,H⟩:=ae H;refine .A 29 [.r 0,.b y1,.b y2,.b y3,.b y4] rfl ⟨rfl,rfl,λhg=>av (en 105 rfl) rfl rfl (Ee (aO oB hg)),rfl,rfl,rfl,λhg=>av (en 106 rfl) rfl rfl (Jo (aO jR hg)),rfl,rfl,rfl,rfl,λhg=>av (en 107 rfl) rfl rfl (G2 (aO fU hg)),rfl,rfl,av (en 108 rfl) rfl rfl (G1 cZ)⟩ (.ite H rfl (λH=>?_) (λH=>?_))
 ·refine .E 4 rfl (.R func31 results31 rfl ?_);cases H;exact .m rfl (.ak _)
 ·refine .E 7 rfl (.lp H (λbI=>[(1,.ref 0 0),(3,.d (cI bI))]) (λbI=>⟨[aI.o26 v0],[]⟩) (.k2 rfl rfl (.nil)) rfl ?_);rintro bI q1 H bF;unfold nJ at H;refine .A 9 [.i (v0.open_.length:Int)] rfl (ir.n rfl rfl) (.ite H rfl (λH=>?_) (λH=>?_))
  ·obtain ⟨cU,H⟩:=au H;obtain ⟨y5,sH,H⟩:=ae H;refine .A 25 [.d (.ro (aa.row (nth v0.open_ bI.toNat))),.r 1,.b y5] rfl ⟨av (en 109 rfl) rfl rfl (DJ sH),ir.ix rfl rfl rfl cU⟩ (.ite H rfl (λH=>?_) (λH=>?_))
   ·refine .E 4 rfl (.R func31 results31 rfl ?_);cases H;cases bF;exact .m rfl (.ak _)
   ·refine .E 6 rfl (.lp H (λyq=>[(1,.ref 0 0),(3,.d (cI bI)),(4,.ref 1 0),(5,.d (cI yq))]) (λyq=>⟨[aI.o26 v0,aa.o58 (nth v0.open_ bI.toNat)],[]⟩) (.k4 rfl rfl rfl rfl (.nil)) rfl ?_);rintro yq q2 H Ea;unfold nI at H;refine .E 7 rfl (.ite H rfl (λH=>?_) (λH=>?_))
    ·obtain ⟨dj,eL,H⟩:=ck2 H;refine .A 27 [.p 20,.d (.ro (aa.row (nth v0.open_ yq.toNat))),.d (.ro (aa.row (nth v0.open_ yq.toNat)))] rfl ⟨rfl,rfl,rfl,rfl,rfl,rfl,λhg=>ir.ix rfl rfl rfl (eL hg),rfl,rfl,rfl,ir.ix rfl rfl rfl dj,(show ct _ _=true by kernel_rfl)⟩ (.ite H rfl (λH=>?_) (λH=>?_))
     ·refine .E 4 rfl (.R func31 results31 rfl ?_);cases H;cases Ea;cases bF;exact .m rfl (.ak _)
     ·obtain ⟨iJ,H⟩:=au H;refine .A 7 [.i (yq+1)] rfl (aJ rfl rfl iJ) ?_;cases H;exact .z Ea rfl rfl
    ·obtain ⟨my,H⟩:=au H;refine .A 7 [.i (bI+1)] rfl (aJ rfl rfl my) ?_;cases H;cases Ea;exact .t 1 0 bF rfl rfl rfl rfl rfl hS rfl
  ·refine .E 5 rfl (.R func31 results31 rfl ?_);cases H;cases bF;exact .m rfl (.ak _)
theorem FW {vj:aE} {r:aa} (H:tf vj=some r):aF prog 62 [.agg (aE.row vj)] (·=.agg (aa.row r)):=by
 obtain ⟨i58,fF,iq,iv,th⟩:=iY;refine aF.aZ func62 rfl ntmps62 rfl λS hS=>?_
 unfold tf at H;refine .A 28 [.r 0,.r 1,.d (.agg (aa.row (⟨vj.source,vj.az,vj.kind,vj.a,vj.b,vj.start,vj.cz,0,0,false,vj.cF,vj.bT⟩:aa)))] rfl (aL.g (br yn fF iq rfl (by kernel_rfl))) (.R func62 results62 rfl ?_);cases H;exact .m rfl (.ak _)
theorem Ef {de:ag} {r:(List aa)} (H:o8 de=some r):aF prog 32 [.agg (ag.row de)] (·=aj 12 aa.row r):=by
 obtain ⟨i58,fF,iq,iv,th⟩:=iY;refine aF.aZ func32 rfl ntmps32 rfl λS hS=>?_
 unfold o8 at H;refine .A 14 [.r 0] rfl trivial (.tok (i:=3) (e:=58) (sz:=12) rfl (.bQ (ι:=List aa) (λqu=>[(1,.ref 0 0),(3,.cY 12 (qu.map aa.row) 0)]) (λqu=>⟨[ag.o30 de],[bq qu.length]⟩) (λs=>lC de s=some r) ?_ ?_))
 ·rintro qu H;replace H:lC de qu=some r:=H;unfold lC at H;obtain ⟨cU,dj,H⟩:=ck2 H;refine .A 22 [.a 0 58 12 aa.row (qu++de.aB),.a 0 58 12 aa.row ((qu++de.aB)++de.aw.open_)] rfl ⟨ir.a rfl rfl rfl rfl dj,ir.a rfl rfl rfl rfl cU⟩ (.R func32 results32 rfl ?_);cases H;exact .m rfl (.cY _ _ _)
 ·intro qN gw;refine .lp H (λ⟨rN,cr⟩=>[(1,.ref 0 0),(3,.cY 12 (rN.map aa.row) 0),(4,.d (cI cr))]) (λ⟨rN,cr⟩=>⟨[ag.o30 de],[bq rN.length]⟩) (.k3 rfl rfl rfl (.nil)) rfl ?_;rintro ⟨rN,cr⟩ q1 H bF
  dsimp only at H
  unfold lD at H;refine .A 9 [.i (de.usages.length:Int)] rfl (Cl.n rfl rfl) (.ite H rfl (λH=>?_) (λH=>?_))
  ·obtain ⟨eL,H⟩:=au H;obtain ⟨y1,cZ,H⟩:=ae H;obtain ⟨iJ,my,H⟩:=ck2 H;refine .A 21 [.d (.ro (aE.row (nth de.usages cr.toNat))),.d (.agg (aa.row y1)),.d (aj 12 aa.row ([y1]:List aa)),.a 0 58 12 aa.row (rN++([y1]:List aa)),.i (cr+1)] rfl ⟨aJ rfl rfl my,ir.a rfl rfl rfl rfl iJ,bp underlying23 fF iv iq rfl rfl rfl rfl rfl,av (en 110 rfl) rfl rfl (FW cZ),Cl.ix rfl rfl rfl eL⟩ ?_;cases H;exact .z bF rfl rfl
  ·refine .E 1 rfl ?_;obtain ⟨q0,H9,mW⟩:=ca H;clear H;cases mW;cases bF;have H:=H9;exact .z (gw rN H) rfl rfl
theorem G6 {aU:List Range} {r:Int} (H:sg aU=some r):aF prog 44 [aj 3 Range.row aU] (·=cI r):=by
 refine aF.aZ func44 rfl ntmps44 rfl λS hS=>?_
 unfold sg at H;refine .E 14 rfl (.lp H (λ⟨oZ,cr⟩=>[(0,.d (aj 3 Range.row aU)),(3,.d (cI oZ)),(4,.d (cI cr))]) (λ⟨oZ,cr⟩=>⟨[],[]⟩) (.k3 rfl rfl rfl (.nil)) rfl ?_);rintro ⟨oZ,cr⟩ q1 H bF
 dsimp only at H
 unfold nK at H;refine .A 8 [.i (aU.length:Int)] rfl (zd.n rfl rfl) (.ite H rfl (λH=>?_) (λH=>?_))
 ·obtain ⟨cU,dj,eL,iJ,my,sx,H⟩:=ck6 H;refine .A 27 [.p 15,.d (.ro (Range.row (nth aU cr.toNat))),.i (oZ+((nth aU cr.toNat).ia)),.d (.ro (Range.row (nth aU cr.toNat))),.i ((oZ+((nth aU cr.toNat).ia)) - (nth aU cr.toNat).from_),.i (((oZ+((nth aU cr.toNat).ia)) - (nth aU cr.toNat).from_)+1),.i (cr+1)] rfl ⟨aJ rfl rfl sx,aJ rfl rfl my,iF rfl rfl iJ,zd.ix rfl rfl rfl eL,aJ rfl rfl dj,zd.ix rfl rfl rfl cU,(show ct _ _=true by kernel_rfl)⟩ ?_;cases H;exact .z bF rfl rfl
 ·refine .E 6 rfl (.R func44 results44 rfl ?_);cases H;cases bF;exact .m rfl (.ak _)
theorem xD {de:ag} {r:bw} (H:mG de=some r):aF prog 14 [.agg (ag.row de)] (·=.agg (bw.row r)):=by
 obtain ⟨i34,P6,P7,hs34,hb34⟩:=RE;refine aF.aZ func14 rfl ntmps14 rfl λS hS=>?_
 unfold mG at H;refine .A 29 [.r 0,.r 1,.i (de.usages.length:Int),.i (de.ba.length:Int),.i (de.aB.length:Int),.i (de.aw.open_.length:Int),.d (.agg (bw.row (⟨0,(de.usages.length:Int),0,(de.ba.length:Int),(de.aB.length:Int),(de.aw.open_.length:Int)⟩:bw))),.r 2] rfl ⟨aL.g (br Oi P6 P7 rfl rfl),ir.n rfl rfl,ir.n rfl rfl,J2.n rfl rfl,Cl.n rfl rfl⟩ (.bQ (ι:=Int) (λre=>[(1,.ref 0 0),(2,.ref 1 0),(3,.ref 2 0)]) (λre=>⟨[ag.o30 de,.row 34 [.d (cI 0),.d (cI 0),.d (cI 0),.d (cI 0),.d (cI 0),.d (cI 0)],.row 34 [.d (cI re),.d (cI (de.usages.length:Int)),.d (cI 0),.d (cI (de.ba.length:Int)),.d (cI (de.aB.length:Int)),.d (cI (de.aw.open_.length:Int))]],[]⟩) (λs=>lE de s=some r) ?_ ?_)
 ·rintro re H;replace H:lE de re=some r:=H;unfold lE at H;obtain ⟨y1,cZ,H⟩:=ae H;obtain ⟨cU,dj,eL,H⟩:=ck3 H;refine let z0:=((y1-(de.usages.length:Int)) - (de.aB.length:Int));.A 24 [.p 14,.i y1,.i (y1-(de.usages.length:Int)),.i z0,.i (z0 - (de.aw.open_.length:Int))] rfl ⟨iF rfl rfl eL,iF rfl rfl dj,iF rfl rfl cU,av (en 111 rfl) rfl rfl (G6 cZ),(show ct _ _=true by kernel_rfl)⟩ ?_;refine .R func14 results14 rfl ?_;cases H;exact .m rfl (.ak _)
 ·intro qN gw;refine .lp H (λ⟨cr,bX⟩=>[(1,.ref 0 0),(2,.ref 1 0),(3,.ref 2 0),(4,.d (cI cr))]) (λ⟨cr,bX⟩=>⟨[ag.o30 de,.row 34 [.d (cI 0),.d (cI 0),.d (cI 0),.d (cI 0),.d (cI 0),.d (cI 0)],.row 34 [.d (cI bX),.d (cI (de.usages.length:Int)),.d (cI 0),.d (cI (de.ba.length:Int)),.d (cI (de.aB.length:Int)),.d (cI (de.aw.open_.length:Int))]],[]⟩) (.k4 rfl rfl rfl rfl (.nil)) rfl ?_;rintro ⟨cr,bX⟩ q1 H bF
  dsimp only at H
  unfold lF at H;refine .A 10 [.i (de.aw.aK.length:Int)] rfl (DV.n rfl rfl) (.ite H rfl (λH=>?_) (λH=>?_))
  ·obtain ⟨iJ,my,sx,H⟩:=ck3 H;refine .A 24 [.p 11,.d (.ro (Head.row (nth de.aw.aK cr.toNat))),.i (bX+((nth de.aw.aK cr.toNat).count)),.i (cr+1)] rfl ⟨aJ rfl rfl sx,aJ rfl rfl my,DV.ix rfl rfl rfl iJ,(show ct _ _=true by kernel_rfl)⟩ ?_;cases H;exact .z bF rfl rfl
  ·refine .E 1 rfl ?_;obtain ⟨q0,H9,mW⟩:=ca H;clear H;cases mW;cases bF;have H:=H9;exact .z (gw bX H) rfl rfl
theorem Ag {v0:ag} {r:Bool} (H:pO v0=some r):aF prog 11 [.agg (ag.row v0)] (·=cB r):=by
 refine aF.aZ func11 rfl ntmps11 rfl λS hS=>?_
 unfold pO at H;obtain ⟨y1,cZ,H⟩:=ae H;refine .A 13 [.r 0,.b y1] rfl (av (en 112 rfl) rfl rfl (G5 cZ)) (.ite H rfl (λH=>?_) (λH=>?_))
 ·refine .E 4 rfl (.R func11 results11 rfl ?_);cases H;exact .m rfl (.ak _)
 ·refine .E 6 rfl (.bQ (ι:=Unit) (λ_=>[(1,.ref 0 0)]) (λ_=>⟨[ag.o30 v0],[]⟩) (λs=>lL v0=some r) ?_ ?_)
  ·rintro _ H;replace H:lL v0=some r:=H;unfold lL at H;refine .E 5 rfl (.bQ (ι:=Unit) (λ_=>[(1,.ref 0 0)]) (λ_=>⟨[ag.o30 v0],[]⟩) (λs=>lJ v0=some r) ?_ ?_)
   ·rintro _ H;replace H:lJ v0=some r:=H;unfold lJ at H;refine .E 5 rfl (.bQ (ι:=Unit) (λ_=>[(1,.ref 0 0)]) (λ_=>⟨[ag.o30 v0],[]⟩) (λs=>lH v0=some r) ?_ ?_)
    ·rintro _ H;replace H:lH v0=some r:=H;unfold lH at H;obtain ⟨y2,fU,H⟩:=ae H;refine .A 11 [.d (aj 12 aa.row y2)] rfl (av (en 113 rfl) rfl rfl (Ef fU)) (.bQ (ι:=Unit) (λ_=>[(1,.ref 0 0)]) (λ_=>⟨[ag.o30 v0],[]⟩) (λs=>lG v0=some r) ?_ ?_)
     ·rintro _ H;replace H:lG v0=some r:=H;unfold lG at H;obtain ⟨y3,jR,H⟩:=ae H;obtain ⟨cU,dj,eL,iJ,H⟩:=ck4 H;refine .A 33 [.d (.agg (bw.row y3)),.r 1,.i (y3.accepted+y3.merged),.i ((y3.accepted+y3.merged)+y3.rejected),.i (((y3.accepted+y3.merged)+y3.rejected)+y3.bn),.i ((((y3.accepted+y3.merged)+y3.rejected)+y3.bn)+y3.open_)] rfl ⟨rfl,rfl,rfl,λhg=>aJ rfl rfl (iJ hg),rfl,rfl,rfl,λhg=>aJ rfl rfl (eL hg),rfl,rfl,rfl,λhg=>aJ rfl rfl (dj hg),rfl,rfl,rfl,λhg=>aJ rfl rfl (cU hg),rfl,rfl,rfl,rfl,rfl,av (en 114 rfl) rfl rfl (xD jR)⟩ (.R func11 results11 rfl ?_);cases H;exact .m rfl (.ak _)
     ·intro Y6 hj4x;refine .lp H (λbu=>[(1,.ref 0 0),(7,.d (aj 12 aa.row y2)),(8,.d (cI bu))]) (λbu=>⟨[ag.o30 v0],[]⟩) (.k3 rfl rfl rfl (.nil)) rfl ?_;rintro bu q1 H bF;unfold qw at H;refine .A 8 [.i (y2.length:Int)] rfl (ir.n rfl rfl) (.ite H rfl (λH=>?_) (λH=>?_))
      ·obtain ⟨my,H⟩:=au H;obtain ⟨y4,oB,H⟩:=ae H;obtain ⟨sx,xK,H⟩:=ck2 H;obtain ⟨y5,sH,H⟩:=ae H;refine .A 31 [.p 23,.d (.ro (aa.row (nth y2 bu.toNat))),.i y4,.d (.ro (aa.row (nth y2 bu.toNat))),.d (.ro (aa.row (nth y2 bu.toNat))),.b y5] rfl ⟨rfl,rfl,λhg=>av (en 109 rfl) rfl rfl (DJ (aO sH hg)),rfl,rfl,rfl,rfl,rfl,λhg=>ir.ix rfl rfl rfl (xK hg),rfl,rfl,rfl,rfl,λhg=>ir.ix rfl rfl rfl (sx hg),rfl,rfl,rfl,rfl,av (en 99 rfl) rfl rfl (pj oB),ir.ix rfl rfl rfl my,(show ct _ _=true by kernel_rfl)⟩ (.ite H rfl (λH=>?_) (λH=>?_))
       ·refine .E 4 rfl (.R func11 results11 rfl ?_);cases H;cases bF;exact .m rfl (.ak _)
       ·refine .E 6 rfl (.lp H (λxH=>[(1,.ref 0 0),(7,.d (aj 12 aa.row y2)),(8,.d (cI bu)),(9,.d (cI xH))]) (λxH=>⟨[ag.o30 v0],[]⟩) (.k4 rfl rfl rfl rfl (.nil)) rfl ?_);rintro xH q2 H Ea;unfold nL at H;refine .E 7 rfl (.ite H rfl (λH=>?_) (λH=>?_))
        ·obtain ⟨D9,Nc,FO,Jj,H⟩:=ck4 H;refine .A 31 [.p 24,.d (.ro (aa.row (nth y2 xH.toNat))),.d (.ro (aa.row (nth y2 bu.toNat))),.d (.ro (aa.row (nth y2 xH.toNat))),.d (.ro (aa.row (nth y2 bu.toNat)))] rfl ⟨rfl,rfl,rfl,rfl,rfl,λhg=>ir.ix rfl rfl rfl (Jj hg),rfl,rfl,rfl,rfl,λhg=>ir.ix rfl rfl rfl (FO hg),rfl,rfl,ir.ix rfl rfl rfl Nc,ir.ix rfl rfl rfl D9,(show ct _ _=true by kernel_rfl)⟩ (.ite H rfl (λH=>?_) (λH=>?_))
         ·refine .E 4 rfl (.R func11 results11 rfl ?_);cases H;cases Ea;cases bF;exact .m rfl (.ak _)
         ·obtain ⟨Jk,H⟩:=au H;refine .A 7 [.i (xH+1)] rfl (aJ rfl rfl Jk) ?_;cases H;exact .z Ea rfl rfl
        ·obtain ⟨Nd,H⟩:=au H;refine .A 7 [.i (bu+1)] rfl (aJ rfl rfl Nd) ?_;cases H;cases Ea;exact .z bF rfl rfl
      ·refine .E 1 rfl ?_;obtain ⟨q0,H9,mW⟩:=ca H;clear H;cases mW;cases bF;have H:=H9;exact .z (hj4x () H) rfl rfl
    ·intro Sa X5;obtain ⟨n3,H⟩:=fG H;refine .loop (ι:=Nat×(Int)) (λ⟨_,xI⟩=>[(1,.ref 0 0),(6,.d (cI xI))]) (λ⟨_,xI⟩=>⟨[ag.o30 v0],[]⟩) (λp=>iter (λs=>lI v0 s) p.1 p.2=some r) (·.1) (n3,0) H (.k2 rfl rfl (.nil)) rfl ?_
     rintro ⟨m1,xI⟩ HI FQ;obtain ⟨n1,q1,uH,H,bF⟩:=fH HI;clear HI;replace H:lI v0 xI=some q1:=H;unfold lI at H;refine .A 9 [.i (v0.ba.length:Int)] rfl (J2.n rfl rfl) (.ite H rfl (λH=>?_) (λH=>?_))
     ·obtain ⟨Nf,XY,H⟩:=ck2 H;refine .A 22 [.d (.ro (ai.row (nth v0.ba xI.toNat))),.d (.ro (ai.row (nth v0.ba xI.toNat)))] rfl ⟨rfl,rfl,rfl,rfl,λhg=>J2.ix rfl rfl rfl (XY hg),rfl,rfl,rfl,J2.ix rfl rfl rfl Nf⟩ (.ite H rfl (λH=>?_) (λH=>?_))
      ·refine .E 4 rfl (.R func11 results11 rfl ?_);cases H;cases bF;exact .m rfl (.ak _)
      ·obtain ⟨XZ,H⟩:=au H;refine .A 7 [.i (xI+1)] rfl (aJ rfl rfl XZ) ?_;cases H;exact .z (FQ (n1,(xI+1)) bF uH) rfl rfl
     ·refine .E 1 rfl ?_;obtain ⟨q0,H9,mW⟩:=ca H;clear H;cases mW;cases bF;have H:=H9;exact .z (X5 () H) rfl rfl
   ·intro FL Ng;obtain ⟨n4,H⟩:=fG H;refine .loop (ι:=Nat×(Int)) (λ⟨_,CQ⟩=>[(1,.ref 0 0),(5,.d (cI CQ))]) (λ⟨_,CQ⟩=>⟨[ag.o30 v0],[]⟩) (λp=>iter (λs=>lK v0 s) p.1 p.2=some r) (·.1) (n4,0) H (.k2 rfl rfl (.nil)) rfl ?_
    rintro ⟨m1,CQ⟩ HI FQ;obtain ⟨n1,q1,uH,H,bF⟩:=fH HI;clear HI;replace H:lK v0 CQ=some q1:=H;unfold lK at H;refine .A 9 [.i (v0.aB.length:Int)] rfl (ir.n rfl rfl) (.ite H rfl (λH=>?_) (λH=>?_))
    ·obtain ⟨X0,H⟩:=au H;refine .A 13 [.d (.ro (aa.row (nth v0.aB CQ.toNat)))] rfl (ir.ix rfl rfl rfl X0) (.ite H rfl (λH=>?_) (λH=>?_))
     ·refine .E 4 rfl (.R func11 results11 rfl ?_);cases H;cases bF;exact .m rfl (.ak _)
     ·obtain ⟨X1,H⟩:=au H;refine .A 7 [.i (CQ+1)] rfl (aJ rfl rfl X1) ?_;cases H;exact .z (FQ (n1,(CQ+1)) bF uH) rfl rfl
    ·refine .E 1 rfl ?_;obtain ⟨q0,H9,mW⟩:=ca H;clear H;cases mW;cases bF;have H:=H9;exact .z (Ng () H) rfl rfl
  ·intro qN gw;obtain ⟨n5,H⟩:=fG H;refine .loop (ι:=Nat×(Int)) (λ⟨_,vX⟩=>[(1,.ref 0 0),(3,.d (cI vX))]) (λ⟨_,vX⟩=>⟨[ag.o30 v0],[]⟩) (λp=>iter (λs=>jC v0 s) p.1 p.2=some r) (·.1) (n5,0) H (.k2 rfl rfl (.nil)) rfl ?_
   rintro ⟨m1,vX⟩ HI FQ;obtain ⟨n1,q1,uH,H,bF⟩:=fH HI;clear HI;replace H:jC v0 vX=some q1:=H;unfold jC at H;refine .A 9 [.i (v0.usages.length:Int)] rfl (Cl.n rfl rfl) (.ite H rfl (λH=>?_) (λH=>?_))
   ·obtain ⟨X2,X3,H⟩:=ck2 H;refine .A 41 [.d (.ro (aE.row (nth v0.usages vX.toNat))),.r 1,.i (vX+1)] rfl ⟨rfl,rfl,rfl,rfl,rfl,rfl,rfl,rfl,rfl,rfl,rfl,rfl,aJ rfl rfl X3,Cl.ix rfl rfl rfl X2⟩ (.ite H rfl (λH=>?_) (λH=>?_))
    ·refine .E 4 rfl (.R func11 results11 rfl ?_);cases H;cases bF;exact .m rfl (.ak _)
    ·obtain ⟨X4,H⟩:=au H;refine .A 7 [.i (vX+1)] rfl (aJ rfl rfl X4) ?_;cases H;exact .t 1 0 (FQ (n1,(vX+1)) bF uH) rfl rfl rfl rfl rfl hS rfl
   ·refine .E 1 rfl ?_;obtain ⟨q0,H9,mW⟩:=ca H;clear H;cases mW;cases bF;have H:=H9;exact .z (gw () H) rfl rfl
theorem wc {de:ag} {r:Bool} (H:jM de=some r):aF prog 3 [.agg (ag.row de)] (·=cB r):=by
 refine aF.aZ func3 rfl ntmps3 rfl λS hS=>?_
 unfold jM at H;obtain ⟨y1,cZ,H⟩:=ae H;refine .A 12 [.r 0,.b y1] rfl (av (en 115 rfl) rfl rfl (Ae cZ)) (.ite H rfl (λH=>?_) (λH=>?_))
 ·obtain ⟨y2,fU,H⟩:=ae H;refine .A 5 [.b y2] rfl (av (en 116 rfl) rfl rfl (fV fU)) (.R func3 results3 rfl ?_);cases H;exact .m rfl (.ak _)
 ·obtain ⟨y3,jR,H⟩:=ae H;obtain ⟨y4,oB,H⟩:=ae H;obtain ⟨y5,sH,H⟩:=ae H;obtain ⟨y6,xW,H⟩:=ae H;refine .C 22 [.b y3,.p 19,.b y4,.b (y4==y3),.d (.agg (bw.row y5)),.d (.agg (bw.row y6)),.b (dO (bw.bJ y5) (bw.bJ y6))] rfl ⟨λhg=>aL.g (Ix RO rfl rfl (xs:=bw.bJ y5) (ys:=bw.bJ y6) rfl rfl rfl rfl),rfl,rfl,λhg=>av (en 114 rfl) rfl rfl (xD (aO xW hg)),rfl,λhg=>av (en 88 rfl) rfl rfl (bB (aO sH hg)),rfl,rfl,rfl,aL.g (Mt rfl underlying4 rfl),av (en 92 rfl) rfl rfl (kV oB),(show ct _ _=true by kernel_rfl),av (en 117 rfl) rfl rfl (Ag jR)⟩ (.ib (env':=[(17,_),(22,_)]) rfl rfl rfl ⟨.inr (.inl rfl),⟨.inr (.inr ⟨_,_,rfl,rfl⟩),trivial⟩⟩ rfl (λhg=>aL.g (vN rfl rfl rfl)) ?_);obtain ⟨y7,J5,H⟩:=ae H;refine .A 7 [.b y7] rfl ⟨rfl,λhg=>av (en 116 rfl) rfl rfl (fV (aO J5 hg)),rfl⟩ (.R func3 results3 rfl ?_);cases H;exact .m rfl (.ak _)
theorem BS {eB:Int} {r:(List Bool)} (H:rl eB=some r):aF prog 118 [cI eB] (·=.agg [cB (nth r 0),cB (nth r 1),cB (nth r 2),cB (nth r 3),cB (nth r 4)]):=by
 obtain ⟨i4,Cm,TJ,Ew,VE⟩:=MX;obtain ⟨i171,FX,FY,hs171,hb171⟩:=Xf;refine aF.aZ func118 rfl ntmps118 rfl λS hS=>?_
 unfold rl at H;refine .A 15 [.r 0] rfl trivial (.ite H rfl (λH=>?_) (λH=>?_))
 ·refine .A 5 [.d (.agg [cB true,cB false,cB false,cB true,cB true])] rfl (aL.g (pD underlying171 FX FY Cm Ew rfl rfl)) (.R func118 results118 rfl ?_);cases H;exact .m rfl (.ak _)
 ·refine .E 5 rfl (.ite H rfl (λH=>?_) (λH=>?_))
  ·refine .A 5 [.d (.agg [cB true,cB false,cB false,cB false,cB false])] rfl (aL.g (pD underlying171 FX FY Cm Ew rfl rfl)) (.R func118 results118 rfl ?_);cases H;exact .m rfl (.ak _)
  ·refine .E 5 rfl (.ite H rfl (λH=>?_) (λH=>?_))
   ·refine .A 5 [.d (.agg [cB true,cB true,cB false,cB true,cB false])] rfl (aL.g (pD underlying171 FX FY Cm Ew rfl rfl)) (.R func118 results118 rfl ?_);cases H;exact .m rfl (.ak _)
   ·refine .kO (ι:=Bool) (λqM=>[(2,.ref 0 0),(3,.d (cI eB)),(13,.d (cB qM))]) (λqM=>⟨[.row 171 [.d (cB false),.d (cB false),.d (cB false),.d (cB false),.d (cB false)]],[]⟩) (λs=>kE eB s=some r) ?_ ?_
    ·rintro qM H;replace H:kE eB qM=some r:=H;unfold kE at H;refine .ite H rfl (λH=>?_) (λH=>?_)
     ·refine .A 5 [.d (.agg [cB false,cB true,cB true,cB false,cB false])] rfl (aL.g (pD underlying171 FX FY Cm Ew rfl rfl)) (.R func118 results118 rfl ?_);cases H;exact .m rfl (.ak _)
     ·refine .kO (ι:=Bool) (λHP=>[(2,.ref 0 0),(3,.d (cI eB)),(17,.d (cB HP))]) (λHP=>⟨[.row 171 [.d (cB false),.d (cB false),.d (cB false),.d (cB false),.d (cB false)]],[]⟩) (λs=>jb eB s=some r) ?_ ?_
      ·rintro HP H;replace H:jb eB HP=some r:=H;unfold jb at H;refine .ite H rfl (λH=>?_) (λH=>?_)
       ·refine .A 5 [.d (.agg [cB false,cB true,cB false,cB true,cB false])] rfl (aL.g (pD underlying171 FX FY Cm Ew rfl rfl)) (.R func118 results118 rfl ?_);cases H;exact .m rfl (.ak _)
       ·refine .kO (ι:=Bool) (λHO=>[(2,.ref 0 0),(22,.d (cB HO))]) (λHO=>⟨[.row 171 [.d (cB false),.d (cB false),.d (cB false),.d (cB false),.d (cB false)]],[]⟩) (λs=>kD s=some r) ?_ ?_
        ·rintro HO H;replace H:kD HO=some r:=H;unfold kD at H;refine .ite H rfl (λH=>?_) (λH=>?_)
         ·refine .A 5 [.d (.agg [cB true,cB false,cB false,cB false,cB true])] rfl (aL.g (pD underlying171 FX FY Cm Ew rfl rfl)) (.R func118 results118 rfl ?_);cases H;exact .m rfl (.ak _)
         ·refine .A 7 [.d (.agg [cB false,cB true,cB false,cB false,cB false])] rfl (aL.g (pD underlying171 FX FY Cm Ew rfl rfl)) (.R func118 results118 rfl ?_);cases H;exact .m rfl (.ak _)
        ·intro Sa;refine .E 5 rfl (.ite H rfl (λH=>?_) (λH=>?_))
         ·exact .E 1 rfl (.z (Sa (eB==14) H) rfl rfl)
         ·exact .E 4 rfl (.z (Sa (eB==15) H) rfl rfl)
      ·intro FL;refine .E 5 rfl (.ite H rfl (λH=>?_) (λH=>?_))
       ·exact .E 1 rfl (.z (FL (eB==7) H) rfl rfl)
       ·refine .E 5 rfl (.ite H rfl (λH=>?_) (λH=>?_))
        ·exact .E 1 rfl (.z (FL (eB==8) H) rfl rfl)
        ·exact .E 4 rfl (.z (FL (eB==9) H) rfl rfl)
    ·intro qN;refine .E 5 rfl (.ite H rfl (λH=>?_) (λH=>?_))
     ·exact .E 1 rfl (.z (qN (eB==5) H) rfl rfl)
     ·exact .E 4 rfl (.z (qN (eB==6) H) rfl rfl)
theorem FZ {zz:Int} {r:Bool} (H:yr zz=some r):aF prog 156 [cI zz] (·=cB r):=by
 refine aF.aZ func156 rfl ntmps156 rfl λS hS=>?_
 unfold yr at H;refine .A 14 [] rfl ⟨rfl,rfl⟩ (.R func156 results156 rfl ?_);cases H;exact .m rfl (.ak _)
theorem Jp {cm:List UInt8} {r:Bool} (H:tX cm=some r):aF prog 157 [cS cm] (·=cB r):=by
 refine aF.aZ func157 rfl ntmps157 rfl λS hS=>?_
 unfold tX at H;obtain ⟨cU,dj,H⟩:=ck2 H;refine .A 26 [.i (cm.length:Int),.i (cm.length:Int),.c (nth cm (Int.toNat (0))),.b (decide ((nth cm (Int.toNat (0)))<97)),.c (nth cm (Int.toNat (0))),.b (decide ((nth cm (Int.toNat (0))) > 122))] rfl ⟨rfl,λhg=>aL.g (Iz (a:=nth cm (Int.toNat (0))) (b:=122) rfl rfl),rfl,λhg=>aL.g (oP (i:=0) underlying9 rfl rfl (dj hg)),rfl,rfl,λhg=>aL.g (Iy (a:=nth cm (Int.toNat (0))) (b:=97) rfl rfl),rfl,λhg=>aL.g (oP (i:=0) underlying9 rfl rfl (cU hg)),rfl,rfl,rfl,λhg=>aL.g (pC underlying9 rfl),rfl,aL.g (pC underlying9 rfl)⟩ (.ite H rfl (λH=>?_) (λH=>?_))
 ·refine .E 4 rfl (.R func157 results157 rfl ?_);cases H;exact .m rfl (.ak _)
 ·refine .E 7 rfl (.lp H (λbC=>[(0,.d (cS cm)),(3,.d (cI bC))]) (λbC=>⟨[],[]⟩) (.k2 rfl rfl (.nil)) rfl ?_);rintro bC q1 H bF;unfold o9 at H;refine .A 8 [.i (cm.length:Int)] rfl (aL.g (pC underlying9 rfl)) (.ite H rfl (λH=>?_) (λH=>?_))
  ·obtain ⟨eL,iJ,my,sx,H⟩:=ck4 H;refine .B 25 [.c (nth cm bC.toNat),.b (decide ((nth cm bC.toNat)<97)),.c (nth cm bC.toNat),.b (decide ((nth cm bC.toNat) > 122)),.c (nth cm bC.toNat),.b (decide ((nth cm bC.toNat)<48)),.c (nth cm bC.toNat),.b (decide ((nth cm bC.toNat) > 57))] rfl ⟨λhg=>aL.g (Iz (a:=nth cm bC.toNat) (b:=57) rfl rfl),rfl,λhg=>aL.g (oP (i:=bC) underlying9 rfl rfl (sx hg)),rfl,rfl,rfl,λhg=>aL.g (Iy (a:=nth cm bC.toNat) (b:=48) rfl rfl),rfl,λhg=>aL.g (oP (i:=bC) underlying9 rfl rfl (my hg)),rfl,rfl,rfl,λhg=>aL.g (Iz (a:=nth cm bC.toNat) (b:=122) rfl rfl),rfl,λhg=>aL.g (oP (i:=bC) underlying9 rfl rfl (iJ hg)),rfl,rfl,aL.g (Iy (a:=nth cm bC.toNat) (b:=97) rfl rfl),aL.g (oP (i:=bC) underlying9 rfl rfl eL)⟩ (.ib (env':=[(43,_),(47,_)]) rfl rfl rfl ⟨.inr (.inl rfl),⟨.inr (.inr ⟨_,_,rfl,rfl⟩),trivial⟩⟩ rfl (λhg=>aL.g (vN rfl rfl rfl)) ?_);obtain ⟨xK,H⟩:=au H;refine .A 8 [.c (nth cm bC.toNat),.b ((nth cm bC.toNat) != 45)] rfl ⟨rfl,λhg=>aL.g (Wv (a:=nth cm bC.toNat) (b:=45) rfl rfl),rfl,λhg=>aL.g (oP (i:=bC) underlying9 rfl rfl (xK hg)),rfl,rfl,rfl⟩ (.ite H rfl (λH=>?_) (λH=>?_))
   ·refine .E 4 rfl (.R func157 results157 rfl ?_);cases H;cases bF;exact .m rfl (.ak _)
   ·obtain ⟨D9,H⟩:=au H;refine .A 7 [.i (bC+1)] rfl (aJ rfl rfl D9) ?_;cases H;exact .z bF rfl rfl
  ·refine .E 5 rfl (.R func157 results157 rfl ?_);cases H;cases bF;exact .m rfl (.ak _)
theorem G7 {RR:Event} {r:Bool} (H:si RR=some r):aF prog 158 [.agg (Event.row RR)] (·=cB r):=by
 refine aF.aZ func158 rfl ntmps158 rfl λS hS=>?_
 unfold si at H;refine .A 12 [.r 0] rfl trivial (.ite H rfl (λH=>?_) (λH=>?_))
 ·refine .A 12 [] rfl ⟨rfl,rfl,rfl⟩ (.R func158 results158 rfl ?_);cases H;exact .m rfl (.ak _)
 ·refine .E 8 rfl (.ite H rfl (λH=>?_) (λH=>?_))
  ·refine .A 12 [] rfl ⟨rfl,rfl,rfl⟩ (.R func158 results158 rfl ?_);cases H;exact .m rfl (.ak _)
  ·refine .A 13 [] rfl ⟨rfl,rfl,rfl⟩ (.R func158 results158 rfl ?_);cases H;exact .m rfl (.ak _)
theorem Jq {v0:Event} {v1 r:Int} (H:tY v0 v1=some r):aF prog 117 [.agg (Event.row v0),cI v1] (·=cI r):=by
 obtain ⟨i4,Cm,TJ,Ew,VE⟩:=MX;refine aF.aZ func117 rfl ntmps117 rfl λS hS=>?_
 unfold tY at H;refine .A 17 [.r 0] rfl ⟨rfl,rfl,rfl⟩ (.ite H rfl (λH=>?_) (λH=>?_))
 ·refine .E 4 rfl (.R func117 results117 rfl ?_);cases H;exact .m rfl (.ak _)
 ·refine .A 13 [] rfl ⟨rfl,rfl,rfl⟩ (.ite H rfl (λH=>?_) (λH=>?_))
  ·refine .E 4 rfl (.R func117 results117 rfl ?_);cases H;exact .m rfl (.ak _)
  ·refine .E 9 rfl (.ite H rfl (λH=>?_) (λH=>?_))
   ·refine .E 4 rfl (.R func117 results117 rfl ?_);cases H;exact .m rfl (.ak _)
   ·obtain ⟨y1,cZ,H⟩:=ae H;refine .B 28 [.d (.agg [cB (nth y1 0),cB (nth y1 1),cB (nth y1 2),cB (nth y1 3),cB (nth y1 4)]),.r 1,.g (.ref 1 0),.g (.ref 1 1)] rfl ⟨rfl,rfl,rfl,rfl,rfl,λhg=>aL.g (oO (m:=1) (sz:=1) underlying171 ⟨_,Cm,Ew⟩ rfl rfl rfl (by decide)),rfl,rfl,rfl,aL.g (oO (m:=0) (sz:=1) underlying171 ⟨_,Cm,Ew⟩ rfl rfl rfl (by decide)),av (en 118 rfl) rfl rfl (BS cZ)⟩ (.ib (env':=[(41,_),(44,_)]) rfl rfl rfl ⟨.inr (.inl rfl),⟨.inr (.inr ⟨_,_,rfl,rfl⟩),trivial⟩⟩ rfl (λhg=>aL.g (dE rfl rfl rfl)) (.B 9 [.g (.ref 1 2)] rfl ⟨rfl,rfl,rfl,rfl,rfl,λhg=>aL.g (oO (m:=2) (sz:=1) underlying171 ⟨_,Cm,Ew⟩ rfl rfl rfl (by decide)),rfl⟩ (.ib (env':=[(51,_),(54,_)]) rfl rfl rfl ⟨.inr (.inl rfl),⟨.inr (.inr ⟨_,_,rfl,rfl⟩),trivial⟩⟩ rfl (λhg=>aL.g (dE rfl rfl rfl)) (.B 9 [.g (.ref 1 3)] rfl ⟨rfl,rfl,rfl,rfl,rfl,λhg=>aL.g (oO (m:=3) (sz:=1) underlying171 ⟨_,Cm,Ew⟩ rfl rfl rfl (by decide)),rfl⟩ (.ib (env':=[(61,_),(64,_)]) rfl rfl rfl ⟨.inr (.inl rfl),⟨.inr (.inr ⟨_,_,rfl,rfl⟩),trivial⟩⟩ rfl (λhg=>aL.g (dE rfl rfl rfl)) (.B 9 [.g (.ref 1 4)] rfl ⟨rfl,rfl,rfl,rfl,rfl,λhg=>aL.g (oO (m:=4) (sz:=1) underlying171 ⟨_,Cm,Ew⟩ rfl rfl rfl (by decide)),rfl⟩ (.ib (env':=[(71,_),(74,_)]) rfl rfl rfl ⟨.inr (.inl rfl),⟨.inr (.inr ⟨_,_,rfl,rfl⟩),trivial⟩⟩ rfl (λhg=>aL.g (dE rfl rfl rfl)) (.A 2 [] rfl rfl (.ite H rfl (λH=>?_) (λH=>?_))))))))))
    ·refine .E 4 rfl (.R func117 results117 rfl ?_);cases H;exact .m rfl (.ak _)
    ·obtain ⟨y2,fU,H⟩:=ae H;obtain ⟨y3,jR,H⟩:=ae H;refine .B 20 [.g (.ref 1 0),.b y2,.g (.ref 1 1),.b y3] rfl ⟨rfl,λhg=>av (en 119 rfl) rfl rfl (FZ (aO jR hg)),rfl,rfl,rfl,rfl,λhg=>aL.g (oO (m:=1) (sz:=1) underlying171 ⟨_,Cm,Ew⟩ rfl rfl rfl (by decide)),rfl,rfl,λhg=>av (en 119 rfl) rfl rfl (FZ (aO fU hg)),rfl,rfl,aL.g (oO (m:=0) (sz:=1) underlying171 ⟨_,Cm,Ew⟩ rfl rfl rfl (by decide))⟩ (.ib (env':=[(88,_),(92,_)]) rfl rfl rfl ⟨.inr (.inl rfl),⟨.inr (.inr ⟨_,_,rfl,rfl⟩),trivial⟩⟩ rfl (λhg=>aL.g (dE rfl rfl rfl)) (.A 2 [] rfl rfl (.ite H rfl (λH=>?_) (λH=>?_))))
     ·refine .E 4 rfl (.R func117 results117 rfl ?_);cases H;exact .m rfl (.ak _)
     ·obtain ⟨y4,oB,H⟩:=ae H;refine .B 20 [.g (.ref 1 3),.b y4] rfl ⟨rfl,rfl,rfl,rfl,rfl,rfl,rfl,λhg=>av (en 120 rfl) rfl rfl (Jp (aO oB hg)),rfl,rfl,aL.g (oO (m:=3) (sz:=1) underlying171 ⟨_,Cm,Ew⟩ rfl rfl rfl (by decide))⟩ (.ib (env':=[(107,_),(110,_)]) rfl rfl rfl ⟨.inr (.inl rfl),⟨.inr (.inr ⟨_,_,rfl,rfl⟩),trivial⟩⟩ rfl (λhg=>aL.g (dE rfl rfl rfl)) (.B 4 [] rfl ⟨rfl,rfl,rfl⟩ (.ib (env':=[(112,_),(115,_)]) rfl rfl rfl ⟨.inr (.inl rfl),⟨.inr (.inr ⟨_,_,rfl,rfl⟩),trivial⟩⟩ rfl (λhg=>aL.g (dE rfl rfl rfl)) (.A 2 [] rfl rfl (.ite H rfl (λH=>?_) (λH=>?_))))))
      ·refine .E 4 rfl (.R func117 results117 rfl ?_);cases H;exact .m rfl (.ak _)
      ·obtain ⟨y5,sH,H⟩:=ae H;refine .A 13 [.g (.ref 1 2),.b y5] rfl ⟨rfl,rfl,λhg=>av (en 96 rfl) rfl rfl (vz (aO sH hg)),rfl,rfl,aL.g (oO (m:=2) (sz:=1) underlying171 ⟨_,Cm,Ew⟩ rfl rfl rfl (by decide))⟩ (.ite H rfl (λH=>?_) (λH=>?_))
       ·refine .E 4 rfl (.R func117 results117 rfl ?_);cases H;exact .m rfl (.ak _)
       ·obtain ⟨y6,xW,H⟩:=ae H;refine .A 12 [.g (.ref 1 4),.b y6] rfl ⟨rfl,rfl,λhg=>av (en 121 rfl) rfl rfl (G7 (aO xW hg)),rfl,aL.g (oO (m:=4) (sz:=1) underlying171 ⟨_,Cm,Ew⟩ rfl rfl rfl (by decide))⟩ (.ite H rfl (λH=>?_) (λH=>?_))
        ·refine .E 4 rfl (.R func117 results117 rfl ?_);cases H;exact .m rfl (.ak _)
        ·refine .E 5 rfl (.R func117 results117 rfl ?_);cases H;exact .m rfl (.ak _)
theorem sS {ep:ah} {vW r:Int} (H:kF ep vW=some r):aF prog 121 [.agg (ah.row ep),cI vW] (·=cI r):=by
 refine aF.aZ func121 rfl ntmps121 rfl λS hS=>?_
 unfold kF at H;refine .A 11 [.r 0] rfl trivial (.lp H (λaG=>[(1,.d (cI vW)),(2,.ref 0 0),(5,.d (cI aG))]) (λaG=>⟨[ah.o123 ep],[]⟩) (.k3 rfl rfl rfl (.nil)) rfl ?_);rintro aG q1 H bF;unfold lM at H;refine .A 9 [.i (ep.aM.length:Int)] rfl (I2.n rfl rfl) (.ite H rfl (λH=>?_) (λH=>?_))
 ·obtain ⟨cU,H⟩:=au H;refine .A 14 [.d (.ro (al.oR (nth ep.aM aG.toNat)))] rfl (I2.ix rfl rfl rfl cU) (.ite H rfl (λH=>?_) (λH=>?_))
  ·refine .E 5 rfl (.R func121 results121 rfl ?_);cases H;cases bF;exact .m rfl (.ak _)
  ·obtain ⟨dj,H⟩:=au H;refine .A 7 [.i (aG+1)] rfl (aJ rfl rfl dj) ?_;cases H;exact .z bF rfl rfl
 ·refine .E 5 rfl (.R func121 results121 rfl ?_);cases H;cases bF;exact .m rfl (.ak _)
theorem sA {ep:ah} {vW r:Int} (H:oo ep vW=some r):aF prog 99 [.agg (ah.row ep),cI vW] (·=cI r):=by
 refine aF.aZ func99 rfl ntmps99 rfl λS hS=>?_
 unfold oo at H;refine .A 11 [.r 0] rfl trivial (.lp H (λaG=>[(1,.d (cI vW)),(2,.ref 0 0),(5,.d (cI aG))]) (λaG=>⟨[ah.o123 ep],[]⟩) (.k3 rfl rfl rfl (.nil)) rfl ?_);rintro aG q1 H bF;unfold qx at H;refine .A 9 [.i (ep.bh.length:Int)] rfl (tS.n rfl rfl) (.ite H rfl (λH=>?_) (λH=>?_))
 ·obtain ⟨cU,H⟩:=au H;refine .A 14 [.d (.ro (Sub.row (nth ep.bh aG.toNat)))] rfl (tS.ix rfl rfl rfl cU) (.ite H rfl (λH=>?_) (λH=>?_))
  ·refine .E 5 rfl (.R func99 results99 rfl ?_);cases H;cases bF;exact .m rfl (.ak _)
  ·obtain ⟨dj,H⟩:=au H;refine .A 7 [.i (aG+1)] rfl (aJ rfl rfl dj) ?_;cases H;exact .z bF rfl rfl
 ·refine .E 5 rfl (.R func99 results99 rfl ?_);cases H;cases bF;exact .m rfl (.ak _)
theorem rT {ep:ah} {vW:Int} {r:Bool} (H:lX ep vW=some r):aF prog 100 [.agg (ah.row ep),cI vW] (·=cB r):=by
 refine aF.aZ func100 rfl ntmps100 rfl λS hS=>?_
 unfold lX at H;refine .A 11 [.r 0] rfl trivial (.lp H (λaG=>[(1,.d (cI vW)),(2,.ref 0 0),(5,.d (cI aG))]) (λaG=>⟨[ah.o123 ep],[]⟩) (.k3 rfl rfl rfl (.nil)) rfl ?_);rintro aG q1 H bF;unfold nM at H;refine .A 9 [.i (ep.ended.length:Int)] rfl (sK.n rfl rfl) (.ite H rfl (λH=>?_) (λH=>?_))
 ·obtain ⟨cU,H⟩:=au H;refine .A 13 [.d (.ro (rI (nth ep.ended aG.toNat)))] rfl (sK.ix rfl rfl rfl cU) (.ite H rfl (λH=>?_) (λH=>?_))
  ·refine .E 4 rfl (.R func100 results100 rfl ?_);cases H;cases bF;exact .m rfl (.ak _)
  ·obtain ⟨dj,H⟩:=au H;refine .A 7 [.i (aG+1)] rfl (aJ rfl rfl dj) ?_;cases H;exact .z bF rfl rfl
 ·refine .E 5 rfl (.R func100 results100 rfl ?_);cases H;cases bF;exact .m rfl (.ak _)
theorem Jr {ep:ah} {vW:Int} {r:Bool} (H:tZ ep vW=some r):aF prog 159 [.agg (ah.row ep),cI vW] (·=cB r):=by
 refine aF.aZ func159 rfl ntmps159 rfl λS hS=>?_
 unfold tZ at H;refine .A 11 [.r 0] rfl trivial (.lp H (λaG=>[(1,.d (cI vW)),(2,.ref 0 0),(5,.d (cI aG))]) (λaG=>⟨[ah.o123 ep],[]⟩) (.k3 rfl rfl rfl (.nil)) rfl ?_);rintro aG q1 H bF;unfold pb at H;refine .A 9 [.i (ep.bh.length:Int)] rfl (tS.n rfl rfl) (.ite H rfl (λH=>?_) (λH=>?_))
 ·obtain ⟨cU,dj,H⟩:=ck2 H;obtain ⟨y1,cZ,H⟩:=ae H;refine .A 26 [.p 19,.d (.ro (Sub.row (nth ep.bh aG.toNat))),.d (.ro (Sub.row (nth ep.bh aG.toNat))),.b y1] rfl ⟨rfl,rfl,λhg=>av (en 122 rfl) rfl rfl (rT (aO cZ hg)),rfl,rfl,rfl,rfl,λhg=>tS.ix rfl rfl rfl (dj hg),rfl,rfl,rfl,tS.ix rfl rfl rfl cU,(show ct _ _=true by kernel_rfl)⟩ (.ite H rfl (λH=>?_) (λH=>?_))
  ·refine .E 4 rfl (.R func159 results159 rfl ?_);cases H;cases bF;exact .m rfl (.ak _)
  ·obtain ⟨eL,H⟩:=au H;refine .A 7 [.i (aG+1)] rfl (aJ rfl rfl eL) ?_;cases H;exact .z bF rfl rfl
 ·refine .E 5 rfl (.R func159 results159 rfl ?_);cases H;cases bF;exact .m rfl (.ak _)
theorem BT {ep:ah} {sY:Event} {r:Int} (H:mx ep sY=some r):aF prog 119 [.agg (ah.row ep),.agg (Event.row sY)] (·=cI r):=by
 refine aF.aZ func119 rfl ntmps119 rfl λS hS=>?_
 unfold mx at H;obtain ⟨y1,cZ,H⟩:=ae H;refine .A 21 [.r 0,.r 1,.i y1] rfl (av (en 123 rfl) rfl rfl (sS cZ)) (.ite H rfl (λH=>?_) (λH=>?_))
 ·refine .E 6 rfl (.ite H rfl (λH=>?_) (λH=>?_))
  ·refine .E 4 rfl (.R func119 results119 rfl ?_);cases H;exact .m rfl (.ak _)
  ·refine .E 5 rfl (.R func119 results119 rfl ?_);cases H;exact .m rfl (.ak _)
 ·refine .E 7 rfl (.ite H rfl (λH=>?_) (λH=>?_))
  ·refine .E 4 rfl (.R func119 results119 rfl ?_);cases H;exact .m rfl (.ak _)
  ·obtain ⟨cU,H⟩:=au H;refine .A 11 [.d (.ro (al.oR (nth ep.aM y1.toNat)))] rfl (I2.ix rfl rfl rfl cU) (.ite H rfl (λH=>?_) (λH=>?_))
   ·refine .E 4 rfl (.R func119 results119 rfl ?_);cases H;exact .m rfl (.ak _)
   ·obtain ⟨y2,fU,H⟩:=ae H;refine .A 15 [.i y2] rfl ⟨rfl,rfl,λhg=>av (en 124 rfl) rfl rfl (sA (aO fU hg)),rfl,rfl,rfl⟩ (.ite H rfl (λH=>?_) (λH=>?_))
    ·refine .E 4 rfl (.R func119 results119 rfl ?_);cases H;exact .m rfl (.ak _)
    ·obtain ⟨y3,jR,H⟩:=ae H;obtain ⟨dj,H⟩:=au H;refine .B 25 [.b y3,.d (.ro (al.oR (nth ep.aM y1.toNat)))] rfl ⟨rfl,rfl,rfl,λhg=>I2.ix rfl rfl rfl (dj hg),rfl,rfl,rfl,rfl,rfl,rfl,rfl,λhg=>av (en 125 rfl) rfl rfl (Jr (aO jR hg)),rfl,rfl,rfl⟩ (.ib (env':=[(46,_),(53,_)]) rfl rfl rfl ⟨.inr (.inl rfl),⟨.inr (.inr ⟨_,_,rfl,rfl⟩),trivial⟩⟩ rfl (λhg=>aL.g (dE rfl rfl rfl)) (.A 2 [] rfl rfl (.ite H rfl (λH=>?_) (λH=>?_))))
     ·refine .E 4 rfl (.R func119 results119 rfl ?_);cases H;exact .m rfl (.ak _)
     ·refine .E 5 rfl (.R func119 results119 rfl ?_);cases H;exact .m rfl (.ak _)
theorem sB {kx:List (List UInt8)} {yt:List UInt8} {r:Bool} (H:oq kx yt=some r):aF prog 97 [aj 1 rS kx,cS yt] (·=cB r):=by
 refine aF.aZ func97 rfl ntmps97 rfl λS hS=>?_
 unfold oq at H;refine .E 10 rfl (.lp H (λaG=>[(0,.d (aj 1 rS kx)),(1,.d (cS yt)),(5,.d (cI aG))]) (λaG=>⟨[],[]⟩) (.k3 rfl rfl rfl (.nil)) rfl ?_);rintro aG q1 H bF;unfold qy at H;refine .A 8 [.i (kx.length:Int)] rfl (DW.n rfl rfl) (.ite H rfl (λH=>?_) (λH=>?_))
 ·obtain ⟨cU,H⟩:=au H;refine .A 12 [.d (.ro (rS (nth kx aG.toNat)))] rfl (DW.ix rfl rfl rfl cU) (.ite H rfl (λH=>?_) (λH=>?_))
  ·refine .E 4 rfl (.R func97 results97 rfl ?_);cases H;cases bF;exact .m rfl (.ak _)
  ·obtain ⟨dj,H⟩:=au H;refine .A 7 [.i (aG+1)] rfl (aJ rfl rfl dj) ?_;cases H;exact .z bF rfl rfl
 ·refine .E 5 rfl (.R func97 results97 rfl ?_);cases H;cases bF;exact .m rfl (.ak _)
theorem G8 {ep:ah} {eD:List UInt8} {r:Bool} (H:sj ep eD=some r):aF prog 160 [.agg (ah.row ep),cS eD] (·=cB r):=by
 refine aF.aZ func160 rfl ntmps160 rfl λS hS=>?_
 unfold sj at H;refine .A 11 [.r 0] rfl trivial (.lp H (λaG=>[(1,.d (cS eD)),(2,.ref 0 0),(5,.d (cI aG))]) (λaG=>⟨[ah.o123 ep],[]⟩) (.k3 rfl rfl rfl (.nil)) rfl ?_);rintro aG q1 H bF;unfold nN at H;refine .A 9 [.i (ep.bh.length:Int)] rfl (tS.n rfl rfl) (.ite H rfl (λH=>?_) (λH=>?_))
 ·obtain ⟨cU,H⟩:=au H;obtain ⟨y1,cZ,H⟩:=ae H;refine .A 14 [.d (.ro (Sub.row (nth ep.bh aG.toNat))),.b y1] rfl ⟨av (en 126 rfl) rfl rfl (sB cZ),tS.ix rfl rfl rfl cU⟩ (.ite H rfl (λH=>?_) (λH=>?_))
  ·refine .E 4 rfl (.R func160 results160 rfl ?_);cases H;cases bF;exact .m rfl (.ak _)
  ·obtain ⟨dj,H⟩:=au H;refine .A 7 [.i (aG+1)] rfl (aJ rfl rfl dj) ?_;cases H;exact .z bF rfl rfl
 ·refine .E 5 rfl (.R func160 results160 rfl ?_);cases H;cases bF;exact .m rfl (.ak _)
theorem G9 {v0:ah} {v1:Event} {r:Int} (H:sk v0 v1=some r):aF prog 120 [.agg (ah.row v0),.agg (Event.row v1)] (·=cI r):=by
 refine aF.aZ func120 rfl ntmps120 rfl λS hS=>?_
 unfold sk at H;obtain ⟨y1,cZ,H⟩:=ae H;refine .A 20 [.r 0,.r 1,.i y1] rfl (av (en 124 rfl) rfl rfl (sA cZ)) (.ite H rfl (λH=>?_) (λH=>?_))
 ·refine .E 4 rfl (.R func120 results120 rfl ?_);cases H;exact .m rfl (.ak _)
 ·obtain ⟨y2,fU,H⟩:=ae H;refine .A 9 [.b y2] rfl (av (en 122 rfl) rfl rfl (rT fU)) (.ite H rfl (λH=>?_) (λH=>?_))
  ·refine .E 4 rfl (.R func120 results120 rfl ?_);cases H;exact .m rfl (.ak _)
  ·obtain ⟨cU,H⟩:=au H;refine .A 23 [.d (.ro (Sub.row (nth v0.bh y1.toNat))),.r 2] rfl (tS.ix rfl rfl rfl cU) (.ite H rfl (λH=>?_) (λH=>?_))
   ·obtain ⟨y3,jR,H⟩:=ae H;refine .A 7 [.b y3] rfl (av (en 127 rfl) rfl rfl (G8 jR)) (.ite H rfl (λH=>?_) (λH=>?_))
    ·refine .E 4 rfl (.R func120 results120 rfl ?_);cases H;exact .m rfl (.ak _)
    ·refine .E 6 rfl (.R func120 results120 rfl ?_);cases H;exact .m rfl (.ak _)
   ·refine .E 5 rfl (.ite H rfl (λH=>?_) (λH=>?_))
    ·obtain ⟨y4,oB,H⟩:=ae H;refine .A 9 [.b y4] rfl (av (en 126 rfl) rfl rfl (sB oB)) (.ite H rfl (λH=>?_) (λH=>?_))
     ·refine .E 4 rfl (.R func120 results120 rfl ?_);cases H;exact .m rfl (.ak _)
     ·refine .E 6 rfl (.R func120 results120 rfl ?_);cases H;exact .m rfl (.ak _)
    ·refine .E 5 rfl (.ite H rfl (λH=>?_) (λH=>?_))
     ·obtain ⟨y5,sH,H⟩:=ae H;refine .A 8 [.b y5] rfl (av (en 126 rfl) rfl rfl (sB sH)) (.ite H rfl (λH=>?_) (λH=>?_))
      ·refine .E 4 rfl (.R func120 results120 rfl ?_);cases H;exact .m rfl (.ak _)
      ·refine .E 6 rfl (.R func120 results120 rfl ?_);cases H;exact .m rfl (.ak _)
     ·refine .E 5 rfl (.ite H rfl (λH=>?_) (λH=>?_))
      ·obtain ⟨y6,xW,H⟩:=ae H;refine .A 9 [.b y6] rfl (av (en 126 rfl) rfl rfl (sB xW)) (.ite H rfl (λH=>?_) (λH=>?_))
       ·refine .E 4 rfl (.R func120 results120 rfl ?_);cases H;exact .m rfl (.ak _)
       ·refine .E 6 rfl (.R func120 results120 rfl ?_);cases H;exact .m rfl (.ak _)
      ·refine .kO (ι:=Bool) (λHR=>[(3,.ref 1 0),(6,.ref 2 0),(23,.d (cI v1.kind)),(53,.d (cB HR))]) (λHR=>⟨[ah.o123 v0,Event.o79 v1,Sub.o98 (nth v0.bh y1.toNat)],[]⟩) (λs=>lO v0 v1 y1 s=some r) ?_ ?_
       ·rintro HR H;replace H:lO v0 v1 y1 HR=some r:=H;unfold lO at H;refine .ite H rfl (λH=>?_) (λH=>?_)
        ·refine .A 9 [.b (((nth v0.bh y1.toNat).bn)==(v1.kind==10))] rfl (aL.g (Mt rfl underlying4 rfl)) (.ite H rfl (λH=>?_) (λH=>?_))
         ·refine .E 4 rfl (.R func120 results120 rfl ?_);cases H;exact .m rfl (.ak _)
         ·refine .E 6 rfl (.R func120 results120 rfl ?_);cases H;exact .m rfl (.ak _)
        ·refine .kO (ι:=Bool) (λHQ=>[(3,.ref 1 0),(6,.ref 2 0),(62,.d (cB HQ))]) (λHQ=>⟨[ah.o123 v0,Event.o79 v1,Sub.o98 (nth v0.bh y1.toNat)],[]⟩) (λs=>lN v0 v1 y1 s=some r) ?_ ?_
         ·rintro HQ H;replace H:lN v0 v1 y1 HQ=some r:=H;unfold lN at H;refine .ite H rfl (λH=>?_) (λH=>?_)
          ·refine .A 9 [.b (((nth v0.bh y1.toNat).family)==(v1.kind==12))] rfl (aL.g (Mt rfl underlying4 rfl)) (.ite H rfl (λH=>?_) (λH=>?_))
           ·refine .E 4 rfl (.R func120 results120 rfl ?_);cases H;exact .m rfl (.ak _)
           ·refine .E 6 rfl (.R func120 results120 rfl ?_);cases H;exact .m rfl (.ak _)
          ·refine .E 6 rfl (.R func120 results120 rfl ?_);cases H;exact .m rfl (.ak _)
         ·intro FL;refine .E 5 rfl (.ite H rfl (λH=>?_) (λH=>?_))
          ·exact .E 1 rfl (.z (FL (v1.kind==12) H) rfl rfl)
          ·exact .E 4 rfl (.z (FL (v1.kind==13) H) rfl rfl)
       ·intro qN;refine .E 5 rfl (.ite H rfl (λH=>?_) (λH=>?_))
        ·exact .E 1 rfl (.z (qN (v1.kind==10) H) rfl rfl)
        ·exact .E 4 rfl (.z (qN (v1.kind==11) H) rfl rfl)
theorem Ha {ep:ah} {sY:Event} {ri r:Int} (H:pP ep sY ri=some r):aF prog 74 [.agg (ah.row ep),.agg (Event.row sY),cI ri] (·=cI r):=by
 obtain ⟨i4,Cm,TJ,Ew,VE⟩:=MX;refine aF.aZ func74 rfl ntmps74 rfl λS hS=>?_
 unfold pP at H;obtain ⟨y1,cZ,H⟩:=ae H;refine .A 19 [.r 0,.r 1,.i y1] rfl (av (en 128 rfl) rfl rfl (Jq cZ)) (.ite H rfl (λH=>?_) (λH=>?_))
 ·refine .E 5 rfl (.R func74 results74 rfl ?_);cases H;exact .m rfl (.ak _)
 ·obtain ⟨y2,fU,H⟩:=ae H;refine .A 9 [.d (.agg [cB (nth y2 0),cB (nth y2 1),cB (nth y2 2),cB (nth y2 3),cB (nth y2 4)]),.b (nth y2 0)] rfl ⟨aL.g (Rb (m:=0) underlying171 Vx Cm Ew rfl rfl rfl (by decide) rfl),av (en 118 rfl) rfl rfl (BS fU)⟩ (.ite H rfl (λH=>?_) (λH=>?_))
  ·obtain ⟨y3,jR,H⟩:=ae H;refine .A 7 [.i y3] rfl (av (en 129 rfl) rfl rfl (BT jR)) (.R func74 results74 rfl ?_);cases H;exact .m rfl (.ak _)
  ·obtain ⟨y4,oB,H⟩:=ae H;refine .A 8 [.i y4] rfl (av (en 130 rfl) rfl rfl (G9 oB)) (.R func74 results74 rfl ?_);cases H;exact .m rfl (.ak _)
theorem BU {kx:List (List UInt8)} {yt:List UInt8} {r:(List (List UInt8))} (H:rm kx yt=some r):aF prog 161 [aj 1 rS kx,cS yt] (·=aj 1 rS r):=by
 obtain ⟨i9,J6,P2,J7,hb9⟩:=PO;refine aF.aZ func161 rfl ntmps161 rfl λS hS=>?_
 unfold rm at H;refine .E 9 rfl (.bQ (ι:=Int) (λcg=>[(0,.d (aj 1 rS kx)),(1,.d (cS yt)),(5,.d (cI cg))]) (λcg=>⟨[],[]⟩) (λs=>mH kx yt s=some r) ?_ ?_)
 ·rintro cg H;replace H:mH kx yt cg=some r:=H;unfold mH at H;obtain ⟨cU,dj,eL,iJ,my,H⟩:=ck5 H;refine let z0:=(([]:List (List UInt8))++(kx.take cg.toNat));.A 26 [.n (.cY 1 (([]:List (List UInt8)).map rS) 0) (DC ([]:List (List UInt8)).length),.d (aj 1 rS (kx.take cg.toNat)),.a 0 9 1 rS z0,.d (aj 1 rS ([yt]:List (List UInt8))),.a 0 9 1 rS (z0++([yt]:List (List UInt8))),.d (aj 1 rS (kx.drop cg.toNat)),.a 0 9 1 rS ((z0++([yt]:List (List UInt8)))++(kx.drop cg.toNat))] rfl ⟨DW.a rfl rfl rfl rfl my,aL.g (MG (l:=kx) (row:=rS) underlying96 J6 J7 rfl rfl rfl iJ),DW.a rfl rfl rfl rfl eL,bp underlying96 J6 J7 P2 rfl rfl rfl rfl rfl,DW.a rfl rfl rfl rfl dj,aL.g (Cw (l:=kx) (row:=rS) underlying96 J6 J7 rfl rfl rfl cU),.e (Pq underlying96 J6 J7) rfl⟩ ?_;refine .R func161 results161 rfl ?_;cases H;exact .m rfl (.cY _ _ _)
 ·intro qN gw;refine .lp H (λc6=>[(0,.d (aj 1 rS kx)),(1,.d (cS yt)),(5,.d (cI c6))]) (λc6=>⟨[],[]⟩) (.k3 rfl rfl rfl (.nil)) rfl ?_;rintro c6 q1 H bF;unfold vl at H;obtain ⟨sx,H⟩:=au H;refine .A 16 [.i (kx.length:Int),.d (.ro (rS (nth kx c6.toNat))),.b (oI (nth kx c6.toNat) yt)] rfl ⟨rfl,λhg=>aL.g (RC rfl rfl),rfl,rfl,rfl,λhg=>DW.ix rfl rfl rfl (sx hg),rfl,rfl,DW.n rfl rfl⟩ (.ite H rfl (λH=>?_) (λH=>?_))
  ·obtain ⟨xK,H⟩:=au H;refine .A 8 [.i (c6+1)] rfl (aJ rfl rfl xK) ?_;cases H;exact .z bF rfl rfl
  ·refine .E 1 rfl ?_;obtain ⟨q0,H9,mW⟩:=ca H;clear H;cases mW;cases bF;have H:=H9;exact .z (gw c6 H) rfl rfl
theorem xE {kx:List (List UInt8)} {yt:List UInt8} {r:(List (List UInt8))} (H:mI kx yt=some r):aF prog 162 [aj 1 rS kx,cS yt] (·=aj 1 rS r):=by
 obtain ⟨i9,J6,P2,J7,hb9⟩:=PO;refine aF.aZ func162 rfl ntmps162 rfl λS hS=>?_
 unfold mI at H;refine .E 14 rfl (.tok (i:=5) (e:=9) (sz:=1) rfl (.lp H (λ⟨hZ,dd⟩=>[(0,.d (aj 1 rS kx)),(1,.d (cS yt)),(5,.cY 1 (hZ.map rS) 0),(6,.d (cI dd))]) (λ⟨hZ,dd⟩=>⟨[],[DC hZ.length]⟩) (.k4 rfl rfl rfl rfl (.nil)) rfl ?_));rintro ⟨hZ,dd⟩ q1 H bF
 dsimp only at H
 unfold rn at H;refine .A 8 [.i (kx.length:Int)] rfl (DW.n rfl rfl) (.ite H rfl (λH=>?_) (λH=>?_))
 ·obtain ⟨cU,H⟩:=au H;refine .A 12 [.d (.ro (rS (nth kx dd.toNat)))] rfl (DW.ix rfl rfl rfl cU) (.ite H rfl (λH=>?_) (λH=>?_))
  ·obtain ⟨dj,eL,iJ,H⟩:=ck3 H;refine .A 16 [.d (.ro (rS (nth kx dd.toNat))),.d (aj 1 rS ([nth kx dd.toNat]:List (List UInt8))),.a 0 9 1 rS (hZ++([nth kx dd.toNat]:List (List UInt8))),.i (dd+1)] rfl ⟨aJ rfl rfl iJ,DW.a rfl rfl rfl rfl eL,bp underlying96 J6 J7 P2 rfl rfl rfl rfl rfl,DW.ix rfl rfl rfl dj⟩ ?_;cases H;exact .z bF rfl rfl
  ·obtain ⟨my,H⟩:=au H;refine .A 7 [.i (dd+1)] rfl (aJ rfl rfl my) ?_;cases H;exact .z bF rfl rfl
 ·refine .E 6 rfl (.R func162 results162 rfl ?_);cases H;cases bF;exact .m rfl (.cY _ _ _)
theorem Eg {cm r:Sub} {sY:Event} (H:pd cm sY=some r):aF prog 122 [.agg (Sub.row cm),.agg (Event.row sY)] (·=.agg (Sub.row r)):=by
 refine aF.aZ func122 rfl ntmps122 rfl λS hS=>?_
 unfold pd at H;refine .A 18 [.r 0,.r 1,.r 2] rfl trivial (.ite H rfl (λH=>?_) (λH=>?_))
 ·refine .E 15 rfl (.R func122 results122 rfl ?_);cases H;exact .m rfl (.d (.agg ⟨.ak _,.ak _,.ak _,.ak _,.nil 1,.nil 1,.ak _,.ak _,trivial⟩))
 ·refine .E 5 rfl (.ite H rfl (λH=>?_) (λH=>?_))
  ·obtain ⟨y1,cZ,H⟩:=ae H;refine .A 15 [.d (aj 1 rS y1)] rfl (av (en 131 rfl) rfl rfl (BU cZ)) (.R func122 results122 rfl ?_);cases H;exact .m rfl (.ak _)
  ·refine .E 5 rfl (.ite H rfl (λH=>?_) (λH=>?_))
   ·obtain ⟨y2,fU,H⟩:=ae H;refine .A 15 [.d (aj 1 rS y2)] rfl (av (en 132 rfl) rfl rfl (xE fU)) (.R func122 results122 rfl ?_);cases H;exact .m rfl (.ak _)
   ·refine .E 5 rfl (.ite H rfl (λH=>?_) (λH=>?_))
    ·refine .E 12 rfl (.R func122 results122 rfl ?_);cases H;exact .m rfl (.ak _)
    ·refine .E 5 rfl (.ite H rfl (λH=>?_) (λH=>?_))
     ·obtain ⟨y3,jR,H⟩:=ae H;refine .A 15 [.d (aj 1 rS y3)] rfl (av (en 131 rfl) rfl rfl (BU jR)) (.R func122 results122 rfl ?_);cases H;exact .m rfl (.ak _)
     ·refine .E 5 rfl (.ite H rfl (λH=>?_) (λH=>?_))
      ·obtain ⟨y4,oB,H⟩:=ae H;refine .A 15 [.d (aj 1 rS y4)] rfl (av (en 132 rfl) rfl rfl (xE oB)) (.R func122 results122 rfl ?_);cases H;exact .m rfl (.ak _)
      ·refine .E 5 rfl (.ite H rfl (λH=>?_) (λH=>?_))
       ·refine .E 10 rfl (.R func122 results122 rfl ?_);cases H;exact .m rfl (.ak _)
       ·refine .E 5 rfl (.ite H rfl (λH=>?_) (λH=>?_))
        ·refine .E 10 rfl (.R func122 results122 rfl ?_);cases H;exact .m rfl (.ak _)
        ·refine .E 5 rfl (.ite H rfl (λH=>?_) (λH=>?_))
         ·refine .E 10 rfl (.R func122 results122 rfl ?_);cases H;exact .m rfl (.ak _)
         ·refine .E 5 rfl (.ite H rfl (λH=>?_) (λH=>?_))
          ·refine .E 10 rfl (.R func122 results122 rfl ?_);cases H;exact .m rfl (.ak _)
          ·refine .E 7 rfl (.R func122 results122 rfl ?_);cases H;exact .m rfl (.ak _)
theorem Ah {v0 r:ah} {v1:Event} (H:im v0 v1=some r):aF prog 75 [.agg (ah.row v0),.agg (Event.row v1)] (·=.agg (ah.row r)):=by
 obtain ⟨i3,vq,xJ,zF,GR⟩:=Bu;obtain ⟨i98,qF,ur,w9,GZ⟩:=DB;obtain ⟨i123,K5,K6,VK,VL⟩:=MY;obtain ⟨i175,qG,s6,xA,HW⟩:=Fs;refine aF.aZ func75 rfl ntmps75 rfl λS hS=>?_
 unfold im at H;refine .A 7 [.r 0,.r 1,.r 2] rfl trivial (.WL (e:=175) (sz:=6) (.WL (e:=98) (sz:=8) (.WL (e:=3) (sz:=1) ?_)));obtain ⟨cU,dj,eL,H⟩:=ck3 H;refine let z0:dD:=.row 123 [.d bd,.d bd,.d bd];let z1:=(([]:List al)++v0.aM);let z2:=(([]:List al).map al.oR);let z3:=(([]:List Int)++v0.ended);let z4:=(([]:List Sub)++v0.bh);.parts 14 [3,7,11,13] [⟨[ah.o123 v0,Event.o79 v1,z0],[⟨175,6,0,some z2⟩,Sub.CF 0 ([]:List Sub),⟨3,1,0,some (([]:List Int).map rI)⟩]⟩,⟨[ah.o123 v0,Event.o79 v1,z0],[⟨175,6,z1.length,some (z1.map al.oR)⟩,Sub.CF 0 ([]:List Sub),⟨3,1,0,some (([]:List Int).map rI)⟩]⟩,⟨[ah.o123 v0,Event.o79 v1,z0],[⟨175,6,0,some z2⟩,Sub.CF 0 ([]:List Sub),⟨3,1,0,some (([]:List Int).map rI)⟩]⟩,⟨[ah.o123 v0,Event.o79 v1,z0],[⟨175,6,z1.length,some (z1.map al.oR)⟩,Sub.M3 z4,⟨3,1,0,some (([]:List Int).map rI)⟩]⟩,⟨[ah.o123 v0,Event.o79 v1,z0],[⟨175,6,0,some z2⟩,Sub.CF 0 ([]:List Sub),⟨3,1,0,some (([]:List Int).map rI)⟩]⟩,⟨[ah.o123 v0,Event.o79 v1,z0],[⟨175,6,0,some z2⟩,Sub.CF 0 ([]:List Sub),⟨3,1,0,some (([]:List Int).map rI)⟩]⟩,⟨[ah.o123 v0,Event.o79 v1,z0],[⟨175,6,0,some z2⟩,Sub.CF 0 ([]:List Sub),⟨3,1,0,some (([]:List Int).map rI)⟩]⟩,⟨[ah.o123 v0,Event.o79 v1,z0],[⟨175,6,z1.length,some (z1.map al.oR)⟩,Sub.M3 z4,⟨3,1,z3.length,some (z3.map rI)⟩]⟩,⟨[ah.o123 v0,Event.o79 v1,z0,z0],[⟨175,6,0,some z2⟩,Sub.CF 0 ([]:List Sub),⟨3,1,0,some (([]:List Int).map rI)⟩]⟩,⟨[ah.o123 v0,Event.o79 v1,z0,z0],[⟨175,6,z1.length,some (z1.map al.oR)⟩,Sub.CF 0 ([]:List Sub),⟨3,1,0,some (([]:List Int).map rI)⟩]⟩,⟨[ah.o123 v0,Event.o79 v1,z0],[⟨175,6,0,some z2⟩,Sub.CF 0 ([]:List Sub),⟨3,1,0,some (([]:List Int).map rI)⟩]⟩,⟨[ah.o123 v0,Event.o79 v1,z0,z0],[⟨175,6,z1.length,some (z1.map al.oR)⟩,Sub.M3 z4,⟨3,1,0,some (([]:List Int).map rI)⟩]⟩,⟨[ah.o123 v0,Event.o79 v1,z0],[⟨175,6,0,some z2⟩,Sub.CF 0 ([]:List Sub),⟨3,1,0,some (([]:List Int).map rI)⟩]⟩,⟨[ah.o123 v0,Event.o79 v1,z0],[⟨175,6,0,some z2⟩,Sub.CF 0 ([]:List Sub),⟨3,1,0,some (([]:List Int).map rI)⟩]⟩,⟨[ah.o123 v0,Event.o79 v1,z0],[⟨175,6,0,some z2⟩,Sub.CF 0 ([]:List Sub),⟨3,1,0,some (([]:List Int).map rI)⟩]⟩,⟨[ah.o123 v0,Event.o79 v1,z0,z0],[⟨175,6,z1.length,some (z1.map al.oR)⟩,Sub.M3 z4,⟨3,1,z3.length,some (z3.map rI)⟩]⟩] oc (by kernel_rfl) rfl (by decide) rfl ?_;show CB _ _ _ _ _ _ _ _ _ _ (_::_) _ _;refine .g (x:=.d (.e0 6)) [0,8] ⟨⟨_,rfl,(xA▸eT underlying119 qG)⟩,⟨_,rfl,(xA▸eT underlying119 qG)⟩,trivial⟩ rfl (by kernel_rfl) rfl (.s (x:=.ref 0 0) (λs=>bz RF rfl) rfl rfl (.g (x:=.d (aj 6 al.oR v0.aM)) [0,8] ⟨⟨_,rfl,aL.g (cw Oh rfl rfl rfl)⟩,⟨_,rfl,aL.g (cw Oh rfl rfl rfl)⟩,trivial⟩ rfl (by kernel_rfl) rfl ?_));refine .v (x:=.vc 0 (([]:List al)++v0.aM).length) 0 [0,8] ⟨⟨_,_,rfl,rfl,qW (l':=v0.aM) (row:=al.oR) underlying119 qG s6 xA rfl (by rw [HW];decide) rfl (.inl rfl) rfl rfl rfl cU⟩,⟨_,_,rfl,rfl,qW (l':=v0.aM) (row:=al.oR) underlying119 qG s6 xA rfl (by rw [HW];decide) rfl (.inl rfl) rfl rfl rfl cU⟩,trivial⟩ rfl (by kernel_rfl) rfl ?_;refine .g (x:=.d (.e0 8)) [0,1,8,9] ⟨⟨_,rfl,(w9▸eT underlying120 qF)⟩,⟨_,rfl,(w9▸eT underlying120 qF)⟩,⟨_,rfl,(w9▸eT underlying120 qF)⟩,⟨_,rfl,(w9▸eT underlying120 qF)⟩,trivial⟩ rfl (by kernel_rfl) rfl (.s (x:=.ref 0 1) (λs=>bz RG rfl) rfl rfl (.g (x:=.d (aj 8 Sub.row v0.bh)) [0,1,8,9] ⟨⟨_,rfl,aL.g (cw za rfl rfl rfl)⟩,⟨_,rfl,aL.g (cw za rfl rfl rfl)⟩,⟨_,rfl,aL.g (cw za rfl rfl rfl)⟩,⟨_,rfl,aL.g (cw za rfl rfl rfl)⟩,trivial⟩ rfl (by kernel_rfl) rfl ?_));refine .v (x:=.vc 1 (([]:List Sub)++v0.bh).length) 1 [1,9] ⟨⟨_,_,rfl,rfl,qW (l':=v0.bh) (row:=Sub.row) underlying120 qF ur w9 rfl (by rw [GZ];decide) rfl (.inl rfl) rfl rfl rfl dj⟩,⟨_,_,rfl,rfl,qW (l':=v0.bh) (row:=Sub.row) underlying120 qF ur w9 rfl (by rw [GZ];decide) rfl (.inl rfl) rfl rfl rfl dj⟩,trivial⟩ rfl (by kernel_rfl) rfl ?_;refine .g (x:=.d (.e0 1)) [0,1,3,8,9,11] ⟨⟨_,rfl,(zF▸eT underlying121 vq)⟩,⟨_,rfl,(zF▸eT underlying121 vq)⟩,⟨_,rfl,(zF▸eT underlying121 vq)⟩,⟨_,rfl,(zF▸eT underlying121 vq)⟩,⟨_,rfl,(zF▸eT underlying121 vq)⟩,⟨_,rfl,(zF▸eT underlying121 vq)⟩,trivial⟩ rfl (by kernel_rfl) rfl (.s (x:=.ref 0 2) (λs=>bz RH rfl) rfl rfl (.g (x:=.d (aj 1 rI v0.ended)) [0,1,3,8,9,11] ⟨⟨_,rfl,aL.g (cw zb rfl rfl rfl)⟩,⟨_,rfl,aL.g (cw zb rfl rfl rfl)⟩,⟨_,rfl,aL.g (cw zb rfl rfl rfl)⟩,⟨_,rfl,aL.g (cw zb rfl rfl rfl)⟩,⟨_,rfl,aL.g (cw zb rfl rfl rfl)⟩,⟨_,rfl,aL.g (cw zb rfl rfl rfl)⟩,trivial⟩ rfl (by kernel_rfl) rfl ?_));refine .v (x:=.vc 2 (([]:List Int)++v0.ended).length) 2 [3,11] ⟨⟨_,_,rfl,rfl,qW (l':=v0.ended) (row:=rI) underlying121 vq xJ zF rfl (by rw [GR];decide) rfl (.inl rfl) rfl rfl rfl eL⟩,⟨_,_,rfl,rfl,qW (l':=v0.ended) (row:=rI) underlying121 vq xJ zF rfl (by rw [GR];decide) rfl (.inl rfl) rfl rfl rfl eL⟩,trivial⟩ rfl (by kernel_rfl) rfl ?_;refine .s (x:=.agg [.vc 0 (([]:List al)++v0.aM).length,.vc 1 (([]:List Sub)++v0.bh).length,.vc 2 (([]:List Int)++v0.ended).length]) (λs=>Fg MZ K5 K6 rfl rfl) rfl rfl (.v (x:=.ref 3 0) 3 [0,1,3,7] ⟨⟨_,_,rfl,rfl,gI Fu rfl⟩,⟨_,_,rfl,rfl,gI Fu rfl⟩,⟨_,_,rfl,rfl,gI Fu rfl⟩,⟨_,_,rfl,rfl,gI Fu rfl⟩,trivial⟩ rfl (by kernel_rfl) rfl (.nil rfl ?_));show cn _ _ _ _ _ _ (_::_) _ _ _;refine .E 14 rfl (.ite H rfl (λH=>?_) (λH=>?_))
 ·obtain ⟨iJ,H⟩:=au H;refine let z1:=(v1.name==([112,114,101,112,97,105,100]:List UInt8));let z0:=((([]:List al)++v0.aM)++([(⟨v1.aq,v1.at_,v1.value,z1,false,([]:List Int)⟩:al)]:List al));.B 21 [.d (.agg [cI v1.aq,cI v1.at_,cI v1.value,cB z1,cB false,bd]),.d (aj 6 al.oR ([(⟨v1.aq,v1.at_,v1.value,z1,false,([]:List Int)⟩:al)]:List al)),.t (.vc 0 z0.length) 0 ⟨175,6,z0.length,some (z0.map al.oR)⟩] rfl ⟨.e (gS (l:=([]:List al)++v0.aM) (l':=([(⟨v1.aq,v1.at_,v1.value,z1,false,([]:List Int)⟩:al)]:List al)) (row:=al.oR) underlying119 qG s6 xA rfl (by rw [HW];decide) rfl rfl rfl rfl iJ) rfl,A3.le (bp underlying119 qG xA s6 rfl rfl rfl rfl rfl) (eG.d (.sl ⟨⟨.ak _,.ak _,.ak _,.ak _,.ak _,.nil0 1,trivial⟩,trivial⟩)),aL.g (br RL qG s6 rfl rfl)⟩ ?_;refine .freezeCell (l:=(([]:List al)++v0.aM)++([(⟨v1.aq,v1.at_,v1.value,(v1.name==([112,114,101,112,97,105,100]:List UInt8)),false,([]:List Int)⟩:al)]:List al)) (row:=al.oR) 3 0 rfl rfl rfl (.freezeCell (l:=([]:List Sub)++v0.bh) (row:=Sub.row) 3 1 rfl rfl rfl (.freezeCell (l:=([]:List Int)++v0.ended) (row:=rI) 3 2 rfl rfl rfl (.E 3 rfl (.R func75 results75 rfl ?_))));cases H;exact .m rfl (.ak _)
 ·refine .E 5 rfl (.ite H rfl (λH=>?_) (λH=>?_))
  ·obtain ⟨y1,cZ,H⟩:=ae H;obtain ⟨my,sx,H⟩:=ck2 H;refine let z0:=(([]:List al)++v0.aM);let z1:=(([]:List Int)++v0.ended);.B 15 [.p 8,.i y1,.g (.vp 0 z0.length y1.toNat 0),.w 5 ⟨[ah.o123 v0,Event.o79 v1,.row 123 [.d bd,.d bd,.d bd],.row 123 [.vc 0 z0.length,.vc 1 (([]:List Sub)++v0.bh).length,.vc 2 z1.length]],[⟨175,6,z0.length,some ((z0.set y1.toNat (⟨(nth z0 y1.toNat).id,(nth z0 y1.toNat).since,(nth z0 y1.toNat).anchor,(nth z0 y1.toNat).fX,true,([]:List Int)⟩:al)).map al.oR)⟩,Sub.M3 (([]:List Sub)++v0.bh),⟨3,1,z1.length,some (z1.map rI)⟩]⟩] rfl ⟨.e (Bo (l:=([]:List al)++v0.aM) (row:=al.oR) (a:=(⟨(nth z0 y1.toNat).id,(nth z0 y1.toNat).since,(nth z0 y1.toNat).anchor,(nth z0 y1.toNat).fX,true,([]:List Int)⟩:al)) rfl rfl sx rfl rfl sz_4 rfl (zae rfl) rfl) rfl,aL.g (ng (l:=([]:List al)++v0.aM) (row:=al.oR) (i:=y1) underlying119 qG xA rfl rfl rfl my),av (en 123 rfl) rfl rfl (sS cZ),(show ct _ _=true by kernel_rfl)⟩ ?_;refine let z0:=(([]:List al)++v0.aM);.freezeCell (l:=z0.set y1.toNat (⟨(nth z0 y1.toNat).id,(nth z0 y1.toNat).since,(nth z0 y1.toNat).anchor,(nth z0 y1.toNat).fX,true,([]:List Int)⟩:al)) (row:=al.oR) 3 0 rfl rfl rfl ?_;refine .freezeCell (l:=([]:List Sub)++v0.bh) (row:=Sub.row) 3 1 rfl rfl rfl (.freezeCell (l:=([]:List Int)++v0.ended) (row:=rI) 3 2 rfl rfl rfl (.E 3 rfl (.R func75 results75 rfl ?_)));cases H;exact .m rfl (.ak _)
  ·refine .E 5 rfl (.ite H rfl (λH=>?_) (λH=>?_))
   ·obtain ⟨xK,H⟩:=au H;refine let z0:=((([]:List Sub)++v0.bh)++([(⟨v1.sub,v1.aq,v1.at_,v1.name,([]:List (List UInt8)),([]:List (List UInt8)),false,false⟩:Sub)]:List Sub));.B 20 [.d (.agg (Sub.row (⟨v1.sub,v1.aq,v1.at_,v1.name,([]:List (List UInt8)),([]:List (List UInt8)),false,false⟩:Sub))),.d (aj 8 Sub.row ([(⟨v1.sub,v1.aq,v1.at_,v1.name,([]:List (List UInt8)),([]:List (List UInt8)),false,false⟩:Sub)]:List Sub)),.t (.vc 1 z0.length) 1 (Sub.M3 z0)] rfl ⟨.e (gS (l:=([]:List Sub)++v0.bh) (l':=([(⟨v1.sub,v1.aq,v1.at_,v1.name,([]:List (List UInt8)),([]:List (List UInt8)),false,false⟩:Sub)]:List Sub)) (row:=Sub.row) underlying120 qF ur w9 rfl (by rw [GZ];decide) rfl rfl rfl rfl xK) rfl,bp underlying120 qF w9 ur rfl rfl rfl rfl rfl,aL.g (aL.le (br KT qF ur rfl rfl) (eG.d (.agg ⟨.ak _,.ak _,.ak _,.ak _,.nil 1,.nil 1,.ak _,.ak _,trivial⟩)))⟩ ?_;refine .freezeCell (l:=([]:List al)++v0.aM) (row:=al.oR) 3 0 rfl rfl rfl (.freezeCell (l:=(([]:List Sub)++v0.bh)++([(⟨v1.sub,v1.aq,v1.at_,v1.name,([]:List (List UInt8)),([]:List (List UInt8)),false,false⟩:Sub)]:List Sub)) (row:=Sub.row) 3 1 rfl rfl rfl (.freezeCell (l:=([]:List Int)++v0.ended) (row:=rI) 3 2 rfl rfl rfl (.E 3 rfl (.R func75 results75 rfl ?_))));cases H;exact .m rfl (.ak _)
   ·refine let z0:=(([]:List al)++v0.aM);let z1:=(([]:List Int)++v0.ended);.kO (ι:=Bool) (λHS=>[(2,.ref 0 0),(3,.ref 1 0),(4,.ref 2 0),(5,.ref 3 0),(90,.d (cB HS))]) (λHS=>⟨[ah.o123 v0,Event.o79 v1,.row 123 [.d bd,.d bd,.d bd],.row 123 [.vc 0 z0.length,.vc 1 (([]:List Sub)++v0.bh).length,.vc 2 z1.length]],[⟨175,6,z0.length,some (z0.map al.oR)⟩,Sub.M3 (([]:List Sub)++v0.bh),⟨3,1,z1.length,some (z1.map rI)⟩]⟩) (λs=>jD v0 v1 s=some r) ?_ ?_
    ·rintro HS H;replace H:jD v0 v1 HS=some r:=H;unfold jD at H;refine .ite H rfl (λH=>?_) (λH=>?_)
     ·refine .F 2 rfl (.freezeCell (l:=([]:List al)++v0.aM) (row:=al.oR) 3 0 rfl rfl rfl (.freezeCell (l:=([]:List Sub)++v0.bh) (row:=Sub.row) 3 1 rfl rfl rfl (.freezeCell (l:=([]:List Int)++v0.ended) (row:=rI) 3 2 rfl rfl rfl (.E 3 rfl (.R func75 results75 rfl ?_)))));cases H;exact .m rfl (.ak _)
     ·obtain ⟨y2,fU,H⟩:=ae H;obtain ⟨D9,Nc,H⟩:=ck2 H;obtain ⟨y3,jR,H⟩:=ae H;obtain ⟨FO,Jj,H⟩:=ck2 H;refine let z0:=(([]:List Sub)++v0.bh);let z1:=(([]:List al)++v0.aM);let z2:=(([]:List Int)++v0.ended);.A 30 [.i y2,.p 11,.g (.vp 1 z0.length y2.toNat 0),.f 13 (.d (.agg (Sub.row (nth z0 y2.toNat)))),.d (.agg (Sub.row y3)),.g (.vp 1 z0.length y2.toNat 0),.w 8 ⟨[ah.o123 v0,Event.o79 v1,.row 123 [.d bd,.d bd,.d bd],.row 123 [.vc 0 z1.length,.vc 1 z0.length,.vc 2 z2.length]],[⟨175,6,z1.length,some (z1.map al.oR)⟩,Sub.CF z0.length (z0.set y2.toNat y3),⟨3,1,z2.length,some (z2.map rI)⟩]⟩] rfl ⟨.e (Bo (l:=([]:List Sub)++v0.bh) (row:=Sub.row) (a:=y3) rfl rfl Jj rfl rfl Of rfl (zae rfl) rfl) rfl,aL.g (ng (l:=([]:List Sub)++v0.bh) (row:=Sub.row) (i:=y2) underlying120 qF w9 rfl rfl rfl FO),av (en 133 rfl) rfl rfl (Eg jR),aL.g (mB (l:=([]:List Sub)++v0.bh) (row:=Sub.row) (cs:=(Sub.row (nth z0 y2.toNat))) RK Of rfl rfl Nc (zae rfl) rfl),aL.g (ng (l:=([]:List Sub)++v0.bh) (row:=Sub.row) (i:=y2) underlying120 qF w9 rfl rfl rfl D9),(show ct _ _=true by kernel_rfl),av (en 124 rfl) rfl rfl (sA fU)⟩ ?_;refine .ite H rfl (λH=>?_) (λH=>?_)
      ·obtain ⟨Jk,H⟩:=au H;refine let z0:=((([]:List Int)++v0.ended)++([v1.sub]:List Int));.B 13 [.d (aj 1 rI ([v1.sub]:List Int)),.t (.vc 2 z0.length) 2 ⟨3,1,z0.length,some (z0.map rI)⟩] rfl ⟨.e (gS (l:=([]:List Int)++v0.ended) (l':=([v1.sub]:List Int)) (row:=rI) underlying121 vq xJ zF rfl (by rw [GR];decide) rfl rfl rfl rfl Jk) rfl,bp underlying121 vq zF xJ rfl rfl rfl rfl rfl⟩ ?_;refine .freezeCell (l:=([]:List al)++v0.aM) (row:=al.oR) 3 0 rfl rfl rfl (.freezeCell (l:=(([]:List Sub)++v0.bh).set y2.toNat y3) (row:=Sub.row) 3 1 rfl rfl rfl (.freezeCell (l:=(([]:List Int)++v0.ended)++([v1.sub]:List Int)) (row:=rI) 3 2 rfl rfl rfl (.E 3 rfl (.R func75 results75 rfl ?_))));cases H;exact .m rfl (.ak _)
      ·refine .F 4 rfl (.freezeCell (l:=([]:List al)++v0.aM) (row:=al.oR) 3 0 rfl rfl rfl (.freezeCell (l:=(([]:List Sub)++v0.bh).set y2.toNat y3) (row:=Sub.row) 3 1 rfl rfl rfl (.freezeCell (l:=([]:List Int)++v0.ended) (row:=rI) 3 2 rfl rfl rfl (.E 3 rfl (.R func75 results75 rfl ?_)))));cases H;exact .m rfl (.ak _)
    ·intro qN;refine .E 5 rfl (.ite H rfl (λH=>?_) (λH=>?_))
     ·exact .E 1 rfl (.z (qN (v1.kind==14) H) rfl rfl)
     ·exact .E 4 rfl (.z (qN (v1.kind==15) H) rfl rfl)
theorem Hb {aH:List Event} {r:Int×Int} (H:sn aH=some r):aF prog 45 [aj 7 Event.row aH] (·=.eF [cI r.1,cI r.2]):=by
 obtain ⟨i123,K5,K6,VK,VL⟩:=MY;refine aF.aZ func45 rfl ntmps45 rfl λS hS=>?_
 unfold sn at H;refine .A 12 [.i (aH.length:Int)] rfl (M1.n rfl rfl) (.ite H rfl (λH=>?_) (λH=>?_))
 ·refine .E 5 rfl (.R func45 results45 rfl ?_);cases H;exact .m rfl (.mm rfl)
 ·refine .A 17 [.d (.agg (ah.row (⟨([]:List al),([]:List Sub),([]:List Int)⟩:ah))),.r 0] rfl (aL.g (aL.le (br MZ K5 K6 rfl rfl) (eG.d (.agg ⟨.nil 6,.nil 8,.nil 1,trivial⟩)))) (.lp H (λ⟨yu,dd,dw,CR,CS⟩=>[(0,.d (aj 7 Event.row aH)),(4,.ref 0 0),(5,.d (cI yu)),(6,.d (cI dd))]) (λ⟨yu,dd,dw,CR,CS⟩=>⟨[.row 123 [.d (aj 6 al.oR dw),.d (aj 8 Sub.row CR),.d (aj 1 rI CS)]],[]⟩) (.k4 rfl rfl rfl rfl (.nil)) rfl ?_);rintro ⟨yu,dd,dw,CR,CS⟩ q1 H bF
  dsimp only at H
  unfold nO at H;refine .A 8 [.i (aH.length:Int)] rfl (M1.n rfl rfl) (.ite H rfl (λH=>?_) (λH=>?_))
  ·obtain ⟨cU,H⟩:=au H;obtain ⟨y1,cZ,H⟩:=ae H;refine .A 21 [.p 8,.d (.ro (Event.row (nth aH dd.toNat))),.i y1] rfl ⟨av (en 134 rfl) rfl rfl (Ha cZ),M1.ix rfl rfl rfl cU,(show ct _ _=true by kernel_rfl)⟩ (.ite H rfl (λH=>?_) (λH=>?_))
   ·refine .E 7 rfl (.R func45 results45 rfl ?_);cases H;cases bF;exact .m rfl (.mm rfl)
   ·obtain ⟨dj,H⟩:=au H;obtain ⟨y2,fU,H⟩:=ae H;obtain ⟨eL,iJ,H⟩:=ck2 H;refine .A 26 [.p 6,.d (.ro (Event.row (nth aH dd.toNat))),.d (.agg (ah.row y2)),.d (.ro (Event.row (nth aH dd.toNat))),.i (dd+1)] rfl ⟨aJ rfl rfl iJ,M1.ix rfl rfl rfl eL,av (en 135 rfl) rfl rfl (Ah fU),M1.ix rfl rfl rfl dj,(show ct _ _=true by kernel_rfl)⟩ ?_;cases H;exact .z bF rfl rfl
  ·refine .E 6 rfl (.R func45 results45 rfl ?_);cases H;cases bF;exact .m rfl (.mm rfl)
theorem yE {aH:List Event} {r:Bool} (H:rp aH=some r):aF prog 15 [aj 7 Event.row aH] (·=cB r):=by
 refine aF.aZ func15 rfl ntmps15 rfl λS hS=>?_
 unfold rp at H;refine .E 9 rfl (.bQ (ι:=Unit) (λ_=>[(0,.d (aj 7 Event.row aH))]) (λ_=>⟨[],[]⟩) (λs=>qz aH=some r) ?_ ?_)
 ·rintro _ H;replace H:qz aH=some r:=H;unfold qz at H;refine .A 7 [.i (aH.length:Int)] rfl (M1.n rfl rfl) (.ite H rfl (λH=>?_) (λH=>?_))
  ·refine .E 4 rfl (.R func15 results15 rfl ?_);cases H;exact .m rfl (.ak _)
  ·obtain ⟨y1,cZ,H⟩:=ae H;refine .A 17 [.d (.eF [cI y1.1,cI y1.2])] rfl (av (en 136 rfl) rfl rfl (Hb cZ)) (.R func15 results15 rfl ?_);cases H;exact .m rfl (.ak _)
 ·intro qN gw;refine .lp H (λbC=>[(0,.d (aj 7 Event.row aH)),(3,.d (cI bC))]) (λbC=>⟨[],[]⟩) (.k2 rfl rfl (.nil)) rfl ?_;rintro bC q1 H bF;unfold tg at H;refine .A 12 [.i (aH.length:Int)] rfl ⟨rfl,rfl,M1.n rfl rfl⟩ (.ite H rfl (λH=>?_) (λH=>?_))
  ·obtain ⟨cU,dj,H⟩:=ck2 H;refine .A 22 [.d (.ro (Event.row (nth aH bC.toNat))),.i (((nth aH bC.toNat).name).length:Int),.d (.ro (Event.row (nth aH bC.toNat))),.i (((nth aH bC.toNat).number).length:Int)] rfl ⟨rfl,rfl,λhg=>aL.g (pC underlying9 rfl),rfl,rfl,rfl,λhg=>M1.ix rfl rfl rfl (dj hg),rfl,rfl,aL.g (pC underlying9 rfl),M1.ix rfl rfl rfl cU⟩ (.ite H rfl (λH=>?_) (λH=>?_))
   ·refine .E 4 rfl (.R func15 results15 rfl ?_);cases H;cases bF;exact .m rfl (.ak _)
   ·obtain ⟨eL,H⟩:=au H;refine .A 7 [.i (bC+1)] rfl (aJ rfl rfl eL) ?_;cases H;exact .z bF rfl rfl
  ·refine .E 1 rfl ?_;obtain ⟨q0,H9,mW⟩:=ca H;clear H;cases mW;cases bF;have H:=H9;exact .z (gw () H) rfl rfl
theorem pH {de:ag} {r:Bool} (H:gX de=some r):aF prog 16 [.agg (ag.row de)] (·=cB r):=by
 refine aF.aZ func16 rfl ntmps16 rfl λS hS=>?_
 unfold gX at H;obtain ⟨y1,cZ,H⟩:=ae H;obtain ⟨y2,fU,H⟩:=ae H;refine .A 15 [.r 0,.b y1,.b y2] rfl ⟨rfl,λhg=>av (en 117 rfl) rfl rfl (Ag (aO fU hg)),rfl,av (en 115 rfl) rfl rfl (Ae cZ)⟩ (.R func16 results16 rfl ?_);cases H;exact .m rfl (.ak _)
theorem BV {aH:List Event} {GA:Int} {r:ah} (H:rq aH GA=some r):aF prog 98 [aj 7 Event.row aH,cI GA] (·=.agg (ah.row r)):=by
 obtain ⟨i123,K5,K6,VK,VL⟩:=MY;refine aF.aZ func98 rfl ntmps98 rfl λS hS=>?_
 unfold rq at H;refine .A 16 [.r 0,.d (.agg (ah.row (⟨([]:List al),([]:List Sub),([]:List Int)⟩:ah))),.r 1] rfl (aL.g (aL.le (br MZ K5 K6 rfl rfl) (eG.d (.agg ⟨.nil 6,.nil 8,.nil 1,trivial⟩)))) (.lp H (λ⟨dd,cE,qs,qt⟩=>[(0,.d (aj 7 Event.row aH)),(1,.d (cI GA)),(4,.ref 0 0),(5,.ref 1 0),(6,.d (cI dd))]) (λ⟨dd,cE,qs,qt⟩=>⟨[.row 123 [.d bd,.d bd,.d bd],.row 123 [.d (aj 6 al.oR cE),.d (aj 8 Sub.row qs),.d (aj 1 rI qt)]],[]⟩) (.k5 rfl rfl rfl rfl rfl (.nil)) rfl ?_);rintro ⟨dd,cE,qs,qt⟩ q1 H bF
 dsimp only at H
 unfold pf at H;refine .A 8 [.i (aH.length:Int)] rfl (M1.n rfl rfl) (.ite H rfl (λH=>?_) (λH=>?_))
 ·obtain ⟨cU,H⟩:=au H;refine .A 13 [.d (.ro (Event.row (nth aH dd.toNat)))] rfl (M1.ix rfl rfl rfl cU) (.ite H rfl (λH=>?_) (λH=>?_))
  ·obtain ⟨dj,H⟩:=au H;obtain ⟨y1,cZ,H⟩:=ae H;obtain ⟨eL,H⟩:=au H;refine .A 16 [.p 6,.d (.ro (Event.row (nth aH dd.toNat))),.d (.agg (ah.row y1)),.i (dd+1)] rfl ⟨aJ rfl rfl eL,av (en 135 rfl) rfl rfl (Ah cZ),M1.ix rfl rfl rfl dj,(show ct _ _=true by kernel_rfl)⟩ ?_;cases H;exact .z bF rfl rfl
  ·obtain ⟨iJ,H⟩:=au H;refine .A 7 [.i (dd+1)] rfl (aJ rfl rfl iJ) ?_;cases H;exact .z bF rfl rfl
 ·refine .E 6 rfl (.R func98 results98 rfl ?_);cases H;cases bF;exact .m rfl (.ak _)
theorem Hc {v0:List Event} {v1:Int} {r:cj} (H:sr v0 v1=some r):aF prog 96 [aj 7 Event.row v0,cI v1] (·=.agg (cj.row r)):=by
 obtain ⟨i3,vq,xJ,zF,GR⟩:=Bu;obtain ⟨i98,qF,ur,w9,GZ⟩:=DB;obtain ⟨i147,hi147,hz147,hs147,hb147⟩:=Xd;obtain ⟨i175,qG,s6,xA,HW⟩:=Fs;refine aF.aZ func96 rfl ntmps96 rfl λS hS=>?_
 unfold sr at H;obtain ⟨y1,cZ,H⟩:=ae H;refine .A 23 [.r 0,.d (.agg (ah.row y1)),.r 1,.d (.agg [bd,bd]),.r 2] rfl ⟨aL.g (br Xq hi147 hz147 rfl rfl),av (en 144 rfl) rfl rfl (BV cZ)⟩ (.rG (o:=2) (ci:=1) (e:=98) (sz:=8) rfl rfl (.bQ (ι:=List Sub) (λgH=>[(4,.ref 0 0),(5,.ref 1 0),(6,.ref 2 0)]) (λgH=>⟨[.row 147 [.d bd,.d bd],ah.o123 y1,.row 147 [.d bd,.cY 8 (gH.map Sub.row) 0]],[oJ gH.length]⟩) (λs=>lP y1 s=some r) ?_ ?_))
 ·rintro gH H;replace H:lP y1 gH=some r:=H;unfold lP at H;refine .E 6 rfl (.rG (o:=2) (ci:=0) (e:=175) (sz:=6) rfl rfl (.lp H (λ⟨vm,bX⟩=>[(4,.ref 0 0),(5,.ref 1 0),(6,.ref 2 0),(9,.d (cI vm))]) (λ⟨vm,bX⟩=>⟨[.row 147 [.d bd,.d bd],ah.o123 y1,.row 147 [.cY 6 (bX.map al.row) 1,.cY 8 (gH.map Sub.row) 0]],[oJ gH.length,Et bX.length]⟩) (.k4 rfl rfl rfl rfl (.nil)) rfl ?_));rintro ⟨vm,bX⟩ q1 H bF
  dsimp only at H
  unfold qB at H;refine .A 15 [.i (bX.length:Int),.i (y1.aM.length:Int)] rfl ⟨rfl,rfl,rfl,λhg=>I2.n rfl rfl,rfl,rfl,λhg=>I2.n rfl rfl,rfl,rfl⟩ (.ite H rfl (λH=>?_) (λH=>?_))
  ·obtain ⟨y2,fU,H⟩:=ae H;refine .A 16 [.i y2] rfl (av (en 123 rfl) rfl rfl (sS fU)) (.ite H rfl (λH=>?_) (λH=>?_))
   ·obtain ⟨cU,H⟩:=au H;refine .A 6 [.i (vm+1)] rfl (aJ rfl rfl cU) ?_;cases H;exact .z bF rfl rfl
   ·obtain ⟨dj,H⟩:=au H;refine .A 16 [.d (.ro (al.oR (nth y1.aM y2.toNat))),.r 3] rfl (I2.ix rfl rfl rfl dj) (.bQ (ι:=List Int) (λw5=>[(4,.ref 0 0),(5,.ref 1 0),(6,.ref 2 0),(9,.d (cI vm)),(11,.ref 3 0)]) (λw5=>⟨[.row 147 [.d bd,.d bd],ah.o123 y1,.row 147 [.cY 6 (bX.map al.row) 1,.cY 8 (gH.map Sub.row) 0],.row 175 [.d (cI (nth y1.aM y2.toNat).id),.d (cI (nth y1.aM y2.toNat).since),.d (cI (nth y1.aM y2.toNat).anchor),.d (cB (nth y1.aM y2.toNat).fX),.d (cB (nth y1.aM y2.toNat).closed),.d (aj 1 rI w5)]],[oJ gH.length,Et bX.length]⟩) (λs=>nP y1 vm bX y2 s=some q1) ?_ ?_)
    ·rintro w5 H;replace H:nP y1 vm bX y2 w5=some q1:=H;unfold nP at H;obtain ⟨eL,iJ,H⟩:=ck2 H;refine .A 15 [.d (aj 6 al.row ([(⟨(nth y1.aM y2.toNat).id,(nth y1.aM y2.toNat).since,(nth y1.aM y2.toNat).anchor,(nth y1.aM y2.toNat).fX,(nth y1.aM y2.toNat).closed,w5⟩:al)]:List al)),.a 1 175 6 al.row (bX++([(⟨(nth y1.aM y2.toNat).id,(nth y1.aM y2.toNat).since,(nth y1.aM y2.toNat).anchor,(nth y1.aM y2.toNat).fX,(nth y1.aM y2.toNat).closed,w5⟩:al)]:List al)),.i (vm+1)] rfl ⟨aJ rfl rfl iJ,I2.a rfl rfl rfl rfl eL,bp underlying119 qG xA s6 rfl rfl rfl rfl rfl⟩ ?_;cases H;exact .t 3 2 bF rfl rfl rfl rfl rfl hS rfl
    ·intro FL Ng;refine .Fp (o:=3) (ci:=5) (e:=3) (sz:=1) rfl rfl (.lp H (λ⟨oA,ua⟩=>[(4,.ref 0 0),(5,.ref 1 0),(6,.ref 2 0),(9,.d (cI vm)),(11,.ref 3 0),(12,.d (cI oA))]) (λ⟨oA,ua⟩=>⟨[.row 147 [.d bd,.d bd],ah.o123 y1,.row 147 [.cY 6 (bX.map al.row) 1,.cY 8 (gH.map Sub.row) 0],.row 175 [.d (cI (nth y1.aM y2.toNat).id),.d (cI (nth y1.aM y2.toNat).since),.d (cI (nth y1.aM y2.toNat).anchor),.d (cB (nth y1.aM y2.toNat).fX),.d (cB (nth y1.aM y2.toNat).closed),.cY 1 (ua.map rI) 2]],[oJ gH.length,Et bX.length,HL ua.length]⟩) (.k6 rfl rfl rfl rfl rfl rfl (.nil)) rfl ?_);rintro ⟨oA,ua⟩ q2 H Ea
     dsimp only at H
     unfold qA at H;refine .A 9 [.i (gH.length:Int)] rfl (tS.n rfl rfl) (.ite H rfl (λH=>?_) (λH=>?_))
     ·obtain ⟨my,H⟩:=au H;refine .A 14 [.d (.ro (Sub.row (nth gH oA.toNat)))] rfl (tS.ix rfl rfl rfl my) (.ite H rfl (λH=>?_) (λH=>?_))
      ·obtain ⟨sx,xK,D9,H⟩:=ck3 H;refine .A 21 [.p 9,.d (.ro (Sub.row (nth gH oA.toNat))),.d (aj 1 rI ([(nth gH oA.toNat).id]:List Int)),.a 2 3 1 rI (ua++([(nth gH oA.toNat).id]:List Int)),.i (oA+1)] rfl ⟨aJ rfl rfl D9,sK.a rfl rfl rfl rfl xK,bp underlying121 vq zF xJ rfl rfl rfl rfl rfl,tS.ix rfl rfl rfl sx,(show ct _ _=true by kernel_rfl)⟩ ?_;cases H;exact .z Ea rfl rfl
      ·obtain ⟨Nc,H⟩:=au H;refine .A 7 [.i (oA+1)] rfl (aJ rfl rfl Nc) ?_;cases H;exact .z Ea rfl rfl
     ·refine .E 1 rfl ?_;obtain ⟨q0,H9,mW⟩:=ca H;clear H;cases mW;cases Ea;have H:=H9;exact .qX 3 5 rfl rfl (.cY _ _ _) (.t 4 2 (Ng ua H) rfl rfl rfl rfl rfl hS rfl)
  ·refine .F 3 rfl (.qX 2 0 rfl rfl (.cY _ _ _) (.qX 2 1 rfl rfl (.cY _ _ _) (.E 3 rfl (.R func96 results96 rfl ?_))));cases H;cases bF;exact .m rfl (.ak _)
 ·intro qN gw;obtain ⟨n3,H⟩:=fG H;refine .loop (ι:=Nat×(Int×List Sub)) (λ⟨_,AL,qC⟩=>[(4,.ref 0 0),(5,.ref 1 0),(6,.ref 2 0),(7,.d (cI AL))]) (λ⟨_,AL,qC⟩=>⟨[.row 147 [.d bd,.d bd],ah.o123 y1,.row 147 [.d bd,.cY 8 (qC.map Sub.row) 0]],[oJ qC.length]⟩) (λp=>iter (λs=>lQ y1 s.1 s.2) p.1 p.2=some r) (·.1) (n3,(1,([]:List Sub))) H (.k4 rfl rfl rfl rfl (.nil)) rfl ?_
  rintro ⟨m1,AL,qC⟩ HI FQ;obtain ⟨n1,q1,uH,H,bF⟩:=fH HI;clear HI;replace H:lQ y1 AL qC=some q1:=H;unfold lQ at H;obtain ⟨FO,H⟩:=au H;refine .A 19 [.i (qC.length:Int),.i (y1.bh.length:Int),.i (y1.ended.length:Int),.i ((y1.bh.length:Int) - (y1.ended.length:Int))] rfl ⟨rfl,rfl,rfl,λhg=>iF rfl rfl (FO hg),rfl,rfl,λhg=>sK.n rfl rfl,rfl,rfl,λhg=>tS.n rfl rfl,rfl,rfl,λhg=>tS.n rfl rfl,rfl,rfl⟩ (.ite H rfl (λH=>?_) (λH=>?_))
  ·obtain ⟨y3,jR,H⟩:=ae H;obtain ⟨y4,oB,H⟩:=ae H;refine .A 21 [.i y3,.b y4] rfl ⟨rfl,rfl,λhg=>av (en 122 rfl) rfl rfl (rT (aO oB hg)),rfl,rfl,av (en 124 rfl) rfl rfl (sA jR)⟩ (.ite H rfl (λH=>?_) (λH=>?_))
   ·obtain ⟨Jj,Jk,Nd,H⟩:=ck3 H;refine .A 20 [.p 8,.d (.ro (Sub.row (nth y1.bh y3.toNat))),.d (aj 8 Sub.row ([nth y1.bh y3.toNat]:List Sub)),.a 0 98 8 Sub.row (qC++([nth y1.bh y3.toNat]:List Sub)),.i (AL+1)] rfl ⟨aJ rfl rfl Nd,tS.a rfl rfl rfl rfl Jk,bp underlying120 qF w9 ur rfl rfl rfl rfl rfl,tS.ix rfl rfl rfl Jj,(show ct _ _=true by kernel_rfl)⟩ ?_;cases H;exact .z (FQ (n1,(AL+1,qC++([nth y1.bh y3.toNat]:List Sub))) bF uH) rfl rfl
   ·obtain ⟨Nf,H⟩:=au H;refine .A 7 [.i (AL+1)] rfl (aJ rfl rfl Nf) ?_;cases H;exact .z (FQ (n1,(AL+1,qC)) bF uH) rfl rfl
  ·refine .E 1 rfl ?_;obtain ⟨q0,H9,mW⟩:=ca H;clear H;cases mW;cases bF;have H:=H9;exact .z (gw qC H) rfl rfl
theorem Hd {aH:List Event} {eD:List UInt8} {I6:Int} {r:Int×Bool} (H:sv aH eD I6=some r):aF prog 54 [aj 7 Event.row aH,cS eD,cI I6] (·=.eF [cI r.1,cB r.2]):=by
 refine aF.aZ func54 rfl ntmps54 rfl λS hS=>?_
 unfold sv at H;obtain ⟨y1,cZ,H⟩:=ae H;refine .A 19 [.d (.agg (cj.row y1)),.r 0] rfl (av (en 145 rfl) rfl rfl (Hc cZ)) (.lp H (λfm=>[(1,.d (cS eD)),(8,.ref 0 0),(9,.d (cI fm))]) (λfm=>⟨[.row 147 [.d (aj 6 al.row y1.aM),.d (aj 8 Sub.row y1.bh)]],[]⟩) (.k3 rfl rfl rfl (.nil)) rfl ?_);rintro fm q1 H bF;unfold nQ at H;refine .A 9 [.i (y1.bh.length:Int)] rfl (tS.n rfl rfl) (.ite H rfl (λH=>?_) (λH=>?_))
 ·obtain ⟨cU,H⟩:=au H;obtain ⟨y2,fU,H⟩:=ae H;refine .A 14 [.d (.ro (Sub.row (nth y1.bh fm.toNat))),.b y2] rfl ⟨av (en 126 rfl) rfl rfl (sB fU),tS.ix rfl rfl rfl cU⟩ (.ite H rfl (λH=>?_) (λH=>?_))
  ·obtain ⟨dj,H⟩:=au H;refine .A 11 [.d (.ro (Sub.row (nth y1.bh fm.toNat)))] rfl (tS.ix rfl rfl rfl dj) (.R func54 results54 rfl ?_);cases H;cases bF;exact .m rfl (.mm rfl)
  ·obtain ⟨eL,H⟩:=au H;refine .A 7 [.i (fm+1)] rfl (aJ rfl rfl eL) ?_;cases H;exact .z bF rfl rfl
 ·refine .E 6 rfl (.R func54 results54 rfl ?_);cases H;cases bF;exact .m rfl (.mm rfl)
theorem K7 {aH:List Event} {wZ I6:Int} {r:Sub×Bool} (H:vY aH wZ I6=some r):aF prog 55 [aj 7 Event.row aH,cI wZ,cI I6] (·=.eF [.agg (Sub.row r.1),cB r.2]):=by
 obtain ⟨i98,qF,ur,w9,GZ⟩:=DB;refine aF.aZ func55 rfl ntmps55 rfl λS hS=>?_
 unfold vY at H;obtain ⟨y1,cZ,H⟩:=ae H;obtain ⟨y2,fU,H⟩:=ae H;obtain ⟨y3,jR,H⟩:=ae H;refine .A 31 [.r 0,.d (.agg (ah.row y1)),.r 1,.i y2,.b y3] rfl ⟨rfl,λhg=>av (en 122 rfl) rfl rfl (rT (aO jR hg)),rfl,rfl,av (en 124 rfl) rfl rfl (sA fU),av (en 144 rfl) rfl rfl (BV cZ)⟩ (.ite H rfl (λH=>?_) (λH=>?_))
 ·refine .A 6 [.d (.agg (Sub.row kq12))] rfl (aL.g (aL.le (br KT qF ur rfl rfl) (eG.d (.agg ⟨.ak _,.ak _,.ak _,.ak _,.nil 1,.nil 1,.ak _,.ak _,trivial⟩)))) (.R func55 results55 rfl ?_);cases H;exact .m rfl (.mm rfl)
 ·obtain ⟨cU,H⟩:=au H;refine .A 11 [.d (.ro (Sub.row (nth y1.bh y2.toNat)))] rfl (tS.ix rfl rfl rfl cU) (.R func55 results55 rfl ?_);cases H;exact .m rfl (.mm rfl)
theorem He {v0:List Event} {v1:aa} {v2:Int} {r:aE×Int} (H:pQ v0 v1 v2=some r):aF prog 24 [aj 7 Event.row v0,.agg (aa.row v1),cI v2] (·=.eF [.agg (aE.row r.1),cI r.2]):=by
 obtain ⟨i54,wa,xa,G0,Nh⟩:=DA;refine aF.aZ func24 rfl ntmps24 rfl λS hS=>?_
 unfold pQ at H;obtain ⟨y1,cZ,H⟩:=ae H;refine .A 18 [.r 0,.r 1,.i y1] rfl (av (en 99 rfl) rfl rfl (pj cZ)) (.ite H rfl (λH=>?_) (λH=>?_))
 ·refine .A 7 [.d (.agg (aE.row kq4))] rfl (aL.g (br z7 wa xa rfl rfl)) (.R func24 results24 rfl ?_);cases H;exact .m rfl (.mm rfl)
 ·refine .E 8 rfl (.ite H rfl (λH=>?_) (λH=>?_))
  ·refine .A 6 [.d (.agg (aE.row kq4))] rfl (aL.g (br z7 wa xa rfl rfl)) (.R func24 results24 rfl ?_);cases H;exact .m rfl (.mm rfl)
  ·refine .E 7 rfl (.kO (ι:=List UInt8) (λM6=>[(0,.d (aj 7 Event.row v0)),(2,.d (cI v2)),(4,.ref 0 0),(6,.ref 1 0),(9,.d (cS M6))]) (λM6=>⟨[aa.o58 v1,.row 54 [.d (cI 0),.d (cI 0),.d (cI 0),.d (cI 0),.d (cS ([]:List UInt8)),.d (cS ([]:List UInt8)),.d (cI 0),.d (cI 0),.d (cI 0),.d (cB false),.d (cI 0),.d (cI 0)]],[]⟩) (λs=>jE v0 v1 v2 s=some r) ?_ ?_)
   ·rintro M6 H;replace H:jE v0 v1 v2 M6=some r:=H;unfold jE at H;obtain ⟨y2,fU,H⟩:=ae H;refine .A 23 [.d (.eF [cI y2.1,cB y2.2])] rfl ⟨rfl,rfl,av (en 146 rfl) rfl rfl (Hd fU)⟩ (.ite H rfl (λH=>?_) (λH=>?_))
    ·refine .A 6 [.d (.agg (aE.row kq4))] rfl (aL.g (br z7 wa xa rfl rfl)) (.R func24 results24 rfl ?_);cases H;exact .m rfl (.mm rfl)
    ·obtain ⟨y3,jR,H⟩:=ae H;refine .A 26 [.d (.eF [.agg (Sub.row y3.1),cB y3.2]),.r 2] rfl ⟨rfl,rfl,rfl,av (en 147 rfl) rfl rfl (K7 jR)⟩ (.ite H rfl (λH=>?_) (λH=>?_))
     ·refine .A 6 [.d (.agg (aE.row kq4))] rfl (aL.g (br z7 wa xa rfl rfl)) (.R func24 results24 rfl ?_);cases H;exact .m rfl (.mm rfl)
     ·refine .A 29 [.d (.agg (aE.row (⟨v2,v1.kind,y3.1.aq,y2.1,v1.a,v1.b,v1.start,v1.cz,v1.cF,v1.bT,v1.source,v1.az⟩:aE)))] rfl (aL.g (br z7 wa xa rfl (by kernel_rfl))) (.R func24 results24 rfl ?_);cases H;exact .m rfl (.mm rfl)
   ·intro qN;refine .E 5 rfl (.ite H rfl (λH=>?_) (λH=>?_))
    ·exact .E 5 rfl (.z (qN v1.b H) rfl rfl)
    ·exact .E 1 rfl (.z (qN v1.a H) rfl rfl)
theorem Js {fu gz:List Range} {r:Bool} (H:ub fu gz=some r):aF prog 95 [aj 3 Range.row fu,aj 3 Range.row gz] (·=cB r):=by
 refine aF.aZ func95 rfl ntmps95 rfl λS hS=>?_
 unfold ub at H;refine .A 13 [.i (fu.length:Int),.i (gz.length:Int)] rfl ⟨zd.n rfl rfl,zd.n rfl rfl⟩ (.ite H rfl (λH=>?_) (λH=>?_))
 ·refine .E 4 rfl (.R func95 results95 rfl ?_);cases H;exact .m rfl (.ak _)
 ·refine .E 7 rfl (.lp H (λaG=>[(0,.d (aj 3 Range.row fu)),(1,.d (aj 3 Range.row gz)),(5,.d (cI aG))]) (λaG=>⟨[],[]⟩) (.k3 rfl rfl rfl (.nil)) rfl ?_);rintro aG q1 H bF;unfold rO at H;refine .A 8 [.i (fu.length:Int)] rfl (zd.n rfl rfl) (.ite H rfl (λH=>?_) (λH=>?_))
  ·obtain ⟨cU,dj,H⟩:=ck2 H;refine .A 16 [.p 9,.d (.ro (Range.row (nth fu aG.toNat))),.d (.ro (Range.row (nth gz aG.toNat))),.b (!(dO (Range.bJ (nth fu aG.toNat)) (Range.bJ (nth gz aG.toNat))))] rfl ⟨aL.g (rF XG rfl rfl (xs:=Range.bJ (nth fu aG.toNat)) (ys:=Range.bJ (nth gz aG.toNat)) rfl rfl rfl rfl),zd.ix rfl rfl rfl dj,zd.ix rfl rfl rfl cU,(show ct _ _=true by kernel_rfl)⟩ (.ite H rfl (λH=>?_) (λH=>?_))
   ·refine .E 4 rfl (.R func95 results95 rfl ?_);cases H;cases bF;exact .m rfl (.ak _)
   ·obtain ⟨eL,H⟩:=au H;refine .A 7 [.i (aG+1)] rfl (aJ rfl rfl eL) ?_;cases H;exact .z bF rfl rfl
  ·refine .E 5 rfl (.R func95 results95 rfl ?_);cases H;cases bF;exact .m rfl (.ak _)
theorem tj {fu gz:List aa} {r:Bool} (H:nR fu gz=some r):aF prog 25 [aj 12 aa.row fu,aj 12 aa.row gz] (·=cB r):=by
 refine aF.aZ func25 rfl ntmps25 rfl λS hS=>?_
 unfold nR at H;refine .A 13 [.i (fu.length:Int),.i (gz.length:Int)] rfl ⟨ir.n rfl rfl,ir.n rfl rfl⟩ (.ite H rfl (λH=>?_) (λH=>?_))
 ·refine .E 4 rfl (.R func25 results25 rfl ?_);cases H;exact .m rfl (.ak _)
 ·refine .E 7 rfl (.lp H (λaG=>[(0,.d (aj 12 aa.row fu)),(1,.d (aj 12 aa.row gz)),(5,.d (cI aG))]) (λaG=>⟨[],[]⟩) (.k3 rfl rfl rfl (.nil)) rfl ?_);rintro aG q1 H bF;unfold rP at H;refine .A 8 [.i (fu.length:Int)] rfl (ir.n rfl rfl) (.ite H rfl (λH=>?_) (λH=>?_))
  ·obtain ⟨cU,dj,H⟩:=ck2 H;refine .A 16 [.p 9,.d (.ro (aa.row (nth fu aG.toNat))),.d (.ro (aa.row (nth gz aG.toNat))),.b (!(dO (aa.bJ (nth fu aG.toNat)) (aa.bJ (nth gz aG.toNat))))] rfl ⟨aL.g (rF VB rfl rfl (xs:=aa.bJ (nth fu aG.toNat)) (ys:=aa.bJ (nth gz aG.toNat)) rfl rfl rfl rfl),ir.ix rfl rfl rfl dj,ir.ix rfl rfl rfl cU,(show ct _ _=true by kernel_rfl)⟩ (.ite H rfl (λH=>?_) (λH=>?_))
   ·refine .E 4 rfl (.R func25 results25 rfl ?_);cases H;cases bF;exact .m rfl (.ak _)
   ·obtain ⟨eL,H⟩:=au H;refine .A 7 [.i (aG+1)] rfl (aJ rfl rfl eL) ?_;cases H;exact .z bF rfl rfl
  ·refine .E 5 rfl (.R func25 results25 rfl ?_);cases H;cases bF;exact .m rfl (.ak _)
theorem Jt {fu gz:aI} {r:Bool} (H:ud fu gz=some r):aF prog 52 [.agg (aI.row fu),.agg (aI.row gz)] (·=cB r):=by
 refine aF.aZ func52 rfl ntmps52 rfl λS hS=>?_
 unfold ud at H;refine .A 17 [.r 0,.r 1,.i (fu.aK.length:Int),.i (gz.aK.length:Int)] rfl ⟨DV.n rfl rfl,DV.n rfl rfl⟩ (.ite H rfl (λH=>?_) (λH=>?_))
 ·refine .E 4 rfl (.R func52 results52 rfl ?_);cases H;exact .m rfl (.ak _)
 ·refine .E 6 rfl (.bQ (ι:=Unit) (λ_=>[(2,.ref 0 0),(3,.ref 1 0)]) (λ_=>⟨[aI.o26 fu,aI.o26 gz],[]⟩) (λs=>pg fu gz=some r) ?_ ?_)
  ·rintro _ H;replace H:pg fu gz=some r:=H;unfold pg at H;obtain ⟨y1,cZ,H⟩:=ae H;obtain ⟨y2,fU,H⟩:=ae H;refine .A 16 [.b y1,.b y2] rfl ⟨rfl,λhg=>av (en 151 rfl) rfl rfl (tj (aO fU hg)),rfl,rfl,rfl,rfl,av (en 152 rfl) rfl rfl (Js cZ)⟩ (.R func52 results52 rfl ?_);cases H;exact .m rfl (.ak _)
  ·intro qN gw;refine .lp H (λaG=>[(2,.ref 0 0),(3,.ref 1 0),(5,.d (cI aG))]) (λaG=>⟨[aI.o26 fu,aI.o26 gz],[]⟩) (.k3 rfl rfl rfl (.nil)) rfl ?_;rintro aG q1 H bF;unfold rQ at H;refine .A 9 [.i (fu.aK.length:Int)] rfl (DV.n rfl rfl) (.ite H rfl (λH=>?_) (λH=>?_))
   ·obtain ⟨cU,dj,H⟩:=ck2 H;refine .A 18 [.p 11,.d (.ro (Head.row (nth fu.aK aG.toNat))),.d (.ro (Head.row (nth gz.aK aG.toNat))),.b (!(dO (Head.bJ (nth fu.aK aG.toNat)) (Head.bJ (nth gz.aK aG.toNat))))] rfl ⟨aL.g (rF RP rfl rfl (xs:=Head.bJ (nth fu.aK aG.toNat)) (ys:=Head.bJ (nth gz.aK aG.toNat)) rfl rfl rfl rfl),DV.ix rfl rfl rfl dj,DV.ix rfl rfl rfl cU,(show ct _ _=true by kernel_rfl)⟩ (.ite H rfl (λH=>?_) (λH=>?_))
    ·refine .E 4 rfl (.R func52 results52 rfl ?_);cases H;cases bF;exact .m rfl (.ak _)
    ·obtain ⟨eL,H⟩:=au H;refine .A 7 [.i (aG+1)] rfl (aJ rfl rfl eL) ?_;cases H;exact .z bF rfl rfl
   ·refine .E 1 rfl ?_;obtain ⟨q0,H9,mW⟩:=ca H;clear H;cases mW;cases bF;have H:=H9;exact .z (gw () H) rfl rfl
theorem xb {fu gz:List aE} {r:Bool} (H:pG fu gz=some r):aF prog 22 [aj 12 aE.row fu,aj 12 aE.row gz] (·=cB r):=by
 refine aF.aZ func22 rfl ntmps22 rfl λS hS=>?_
 unfold pG at H;refine .A 13 [.i (fu.length:Int),.i (gz.length:Int)] rfl ⟨Cl.n rfl rfl,Cl.n rfl rfl⟩ (.ite H rfl (λH=>?_) (λH=>?_))
 ·refine .E 4 rfl (.R func22 results22 rfl ?_);cases H;exact .m rfl (.ak _)
 ·refine .E 7 rfl (.lp H (λaG=>[(0,.d (aj 12 aE.row fu)),(1,.d (aj 12 aE.row gz)),(5,.d (cI aG))]) (λaG=>⟨[],[]⟩) (.k3 rfl rfl rfl (.nil)) rfl ?_);rintro aG q1 H bF;unfold rR at H;refine .A 8 [.i (fu.length:Int)] rfl (Cl.n rfl rfl) (.ite H rfl (λH=>?_) (λH=>?_))
  ·obtain ⟨cU,dj,H⟩:=ck2 H;refine .A 16 [.p 9,.d (.ro (aE.row (nth fu aG.toNat))),.d (.ro (aE.row (nth gz aG.toNat))),.b (!(dO (aE.bJ (nth fu aG.toNat)) (aE.bJ (nth gz aG.toNat))))] rfl ⟨aL.g (rF aae rfl rfl (xs:=aE.bJ (nth fu aG.toNat)) (ys:=aE.bJ (nth gz aG.toNat)) rfl rfl rfl rfl),Cl.ix rfl rfl rfl dj,Cl.ix rfl rfl rfl cU,(show ct _ _=true by kernel_rfl)⟩ (.ite H rfl (λH=>?_) (λH=>?_))
   ·refine .E 4 rfl (.R func22 results22 rfl ?_);cases H;cases bF;exact .m rfl (.ak _)
   ·obtain ⟨eL,H⟩:=au H;refine .A 7 [.i (aG+1)] rfl (aJ rfl rfl eL) ?_;cases H;exact .z bF rfl rfl
  ·refine .E 5 rfl (.R func22 results22 rfl ?_);cases H;cases bF;exact .m rfl (.ak _)
theorem zL {fu gz:List ai} {r:Bool} (H:km fu gz=some r):aF prog 53 [aj 4 ai.row fu,aj 4 ai.row gz] (·=cB r):=by
 refine aF.aZ func53 rfl ntmps53 rfl λS hS=>?_
 unfold km at H;refine .A 13 [.i (fu.length:Int),.i (gz.length:Int)] rfl ⟨J2.n rfl rfl,J2.n rfl rfl⟩ (.ite H rfl (λH=>?_) (λH=>?_))
 ·refine .E 4 rfl (.R func53 results53 rfl ?_);cases H;exact .m rfl (.ak _)
 ·refine .E 7 rfl (.lp H (λaG=>[(0,.d (aj 4 ai.row fu)),(1,.d (aj 4 ai.row gz)),(5,.d (cI aG))]) (λaG=>⟨[],[]⟩) (.k3 rfl rfl rfl (.nil)) rfl ?_);rintro aG q1 H bF;unfold kj at H;refine .A 8 [.i (fu.length:Int)] rfl (J2.n rfl rfl) (.ite H rfl (λH=>?_) (λH=>?_))
  ·obtain ⟨cU,dj,H⟩:=ck2 H;refine .A 16 [.p 9,.d (.ro (ai.row (nth fu aG.toNat))),.d (.ro (ai.row (nth gz aG.toNat))),.b (!(dO (ai.bJ (nth fu aG.toNat)) (ai.bJ (nth gz aG.toNat))))] rfl ⟨aL.g (rF aaf rfl rfl (xs:=ai.bJ (nth fu aG.toNat)) (ys:=ai.bJ (nth gz aG.toNat)) rfl rfl rfl rfl),J2.ix rfl rfl rfl dj,J2.ix rfl rfl rfl cU,(show ct _ _=true by kernel_rfl)⟩ (.ite H rfl (λH=>?_) (λH=>?_))
   ·refine .E 4 rfl (.R func53 results53 rfl ?_);cases H;cases bF;exact .m rfl (.ak _)
   ·obtain ⟨eL,H⟩:=au H;refine .A 7 [.i (aG+1)] rfl (aJ rfl rfl eL) ?_;cases H;exact .z bF rfl rfl
  ·refine .E 5 rfl (.R func53 results53 rfl ?_);cases H;cases bF;exact .m rfl (.ak _)
theorem Ju {fu gz:ag} {r:Bool} (H:ue fu gz=some r):aF prog 20 [.agg (ag.row fu),.agg (ag.row gz)] (·=cB r):=by
 refine aF.aZ func20 rfl ntmps20 rfl λS hS=>?_
 unfold ue at H;obtain ⟨y1,cZ,H⟩:=ae H;obtain ⟨y2,fU,H⟩:=ae H;obtain ⟨y3,jR,H⟩:=ae H;obtain ⟨y4,oB,H⟩:=ae H;refine .A 36 [.r 0,.r 1,.b y1,.b y2,.b y3,.b y4] rfl ⟨rfl,λhg=>av (en 153 rfl) rfl rfl (zL (aO oB hg)),rfl,rfl,rfl,rfl,rfl,λhg=>av (en 151 rfl) rfl rfl (tj (aO jR hg)),rfl,rfl,rfl,rfl,rfl,λhg=>av (en 154 rfl) rfl rfl (xb (aO fU hg)),rfl,rfl,rfl,rfl,av (en 155 rfl) rfl rfl (Jt cZ)⟩ (.R func20 results20 rfl ?_);cases H;exact .m rfl (.ak _)
theorem DK {ep:bw} {r:Int} (H:ru ep=some r):aF prog 21 [.agg (bw.row ep)] (·=cI r):=by
 refine aF.aZ func21 rfl ntmps21 rfl λS hS=>?_
 unfold ru at H;obtain ⟨cU,dj,eL,iJ,H⟩:=ck4 H;refine .A 23 [.r 0,.i (ep.accepted+ep.merged),.i ((ep.accepted+ep.merged)+ep.rejected),.i (((ep.accepted+ep.merged)+ep.rejected)+ep.bn),.i ((((ep.accepted+ep.merged)+ep.rejected)+ep.bn)+ep.open_)] rfl ⟨aJ rfl rfl iJ,aJ rfl rfl eL,aJ rfl rfl dj,aJ rfl rfl cU⟩ (.R func21 results21 rfl ?_);cases H;exact .m rfl (.ak _)
theorem we {v0:List Event} {v1:ag} {v2:bY} {r:Bool} (H:jN v0 v1 v2=some r):aF prog 5 [aj 7 Event.row v0,.agg (ag.row v1),.agg (bY.row v2)] (·=cB r):=by
 obtain ⟨i54,wa,xa,G0,Nh⟩:=DA;refine aF.aZ func5 rfl ntmps5 rfl λS hS=>?_
 unfold jN at H;obtain ⟨y1,cZ,H⟩:=ae H;obtain ⟨y2,fU,H⟩:=ae H;obtain ⟨y3,jR,H⟩:=ae H;refine .A 25 [.r 0,.r 1,.b y1,.b y2,.b y3] rfl ⟨rfl,rfl,λhg=>av (en 0 rfl) rfl rfl (u0 (aO jR hg)),rfl,rfl,rfl,rfl,rfl,λhg=>av (en 156 rfl) rfl rfl (pH (aO fU hg)),rfl,av (en 157 rfl) rfl rfl (yE cZ)⟩ (.ite H rfl (λH=>?_) (λH=>?_))
 ·obtain ⟨y4,oB,H⟩:=ae H;refine .A 5 [.b y4] rfl (av (en 116 rfl) rfl rfl (fV oB)) (.R func5 results5 rfl ?_);cases H;exact .m rfl (.ak _)
 ·obtain ⟨y5,sH,H⟩:=ae H;obtain ⟨y6,xW,H⟩:=ae H;refine .A 30 [.d (.agg (bw.row y5)),.r 2,.d (.eF [.agg (ag.row y6.1),cI y6.2]),.r 3] rfl ⟨av (en 90 rfl) rfl rfl (eS xW),av (en 88 rfl) rfl rfl (bB sH)⟩ (.ite H rfl (λH=>?_) (λH=>?_))
  ·obtain ⟨y7,J5,H⟩:=ae H;obtain ⟨y8,Oq,H⟩:=ae H;refine .A 19 [.p 15,.i (y6.1.usages.length:Int),.i y7,.b y8] rfl ⟨rfl,λhg=>av (en 116 rfl) rfl rfl (fV (aO Oq hg)),rfl,rfl,rfl,λhg=>av (en 160 rfl) rfl rfl (DK (aO J5 hg)),rfl,rfl,Cl.n rfl rfl,(show ct _ _=true by kernel_rfl)⟩ (.R func5 results5 rfl ?_);cases H;exact .m rfl (.ak _)
  ·obtain ⟨y9,P1,H⟩:=ae H;obtain ⟨cU,H⟩:=au H;obtain ⟨Fx,Jh,H⟩:=ae H;refine .A 46 [.d (.agg (bw.row y9)),.r 4,.p 33,.i (v2.batch.records.length:Int),.i (y5.read+(v2.batch.records.length:Int)),.i Fx,.i (y6.1.usages.length:Int),.i (v1.usages.length:Int)] rfl ⟨rfl,rfl,rfl,λhg=>Cl.n rfl rfl,rfl,rfl,λhg=>Cl.n rfl rfl,rfl,rfl,rfl,rfl,rfl,rfl,rfl,rfl,rfl,rfl,λhg=>av (en 160 rfl) rfl rfl (DK (aO Jh hg)),rfl,rfl,aJ rfl rfl cU,ir.n rfl rfl,(show ct _ _=true by kernel_rfl),av (en 88 rfl) rfl rfl (bB P1)⟩ (.ite H rfl (λH=>?_) (λH=>?_))
   ·refine .E 4 rfl (.R func5 results5 rfl ?_);cases H;exact .m rfl (.ak _)
   ·obtain ⟨dj,H⟩:=au H;obtain ⟨M7,Sd,H⟩:=ae H;obtain ⟨PS,Se,H⟩:=ae H;obtain ⟨y13,hy13,H⟩:=ae H;refine .A 22 [.p 17,.i (v1.usages.length:Int),.d (aj 12 aE.row (y6.1.usages.take ((v1.usages.length:Int)).toNat)),.b M7,.b PS,.b y13] rfl ⟨rfl,λhg=>av (en 116 rfl) rfl rfl (fV (aO hy13 hg)),rfl,λhg=>av (en 92 rfl) rfl rfl (kV (aO Se hg)),rfl,av (en 154 rfl) rfl rfl (xb Sd),aL.g (Cw (l:=y6.1.usages) (row:=aE.row) underlying27 wa G0 rfl rfl rfl dj),Cl.n rfl rfl,(show ct _ _=true by kernel_rfl)⟩ (.R func5 results5 rfl ?_);cases H;exact .m rfl (.ak _)
theorem xc {v0:List Event} {v1:ag} {r:Bool} (H:kn v0 v1=some r):aF prog 6 [aj 7 Event.row v0,.agg (ag.row v1)] (·=cB r):=by
 obtain ⟨i58,fF,iq,iv,th⟩:=iY;refine aF.aZ func6 rfl ntmps6 rfl λS hS=>?_
 unfold kn at H;obtain ⟨y1,cZ,H⟩:=ae H;obtain ⟨y2,fU,H⟩:=ae H;refine .A 17 [.r 0,.b y1,.b y2] rfl ⟨rfl,rfl,λhg=>av (en 156 rfl) rfl rfl (pH (aO fU hg)),rfl,av (en 157 rfl) rfl rfl (yE cZ)⟩ (.ite H rfl (λH=>?_) (λH=>?_))
 ·obtain ⟨y3,jR,H⟩:=ae H;refine .A 5 [.b y3] rfl (av (en 116 rfl) rfl rfl (fV jR)) (.R func6 results6 rfl ?_);cases H;exact .m rfl (.ak _)
 ·obtain ⟨y4,oB,H⟩:=ae H;refine .A 18 [.d (.agg (ag.row y4)),.r 1] rfl (av (en 91 rfl) rfl rfl (kU oB)) (.tok (i:=6) (e:=58) (sz:=12) rfl (.bQ (ι:=List aa) (λoK=>[(0,.d (aj 7 Event.row v0)),(3,.ref 0 0),(5,.ref 1 0),(6,.cY 12 (oK.map aa.row) 0)]) (λoK=>⟨[ag.o30 v1,ag.o30 y4],[bq oK.length]⟩) (λs=>eK v0 v1 y4 s=some r) ?_ ?_))
  ·rintro oK H;replace H:eK v0 v1 y4 oK=some r:=H;unfold eK at H;refine .E 1 rfl ?_;obtain ⟨y5,sH,H⟩:=ae H;obtain ⟨y6,xW,H⟩:=ae H;refine let z0:dD:=.row 34 [.d (cI 0),.d (cI 0),.d (cI 0),.d (cI 0),.d (cI 0),.d (cI 0)];.Uc (E0:=[(0,.d (aj 7 Event.row v0)),(3,.ref 0 0),(5,.ref 1 0),(6,.cY 12 (oK.map aa.row) 0),(10,.ref 2 0),(11,.ref 3 0),(51,.d (.agg (ag.row v1))),(52,.d (.agg (bw.row y5))),(53,.d (.agg (ag.row y4))),(54,.d (.agg (bw.row y6)))]) (st0:=⟨[ag.o30 v1,ag.o30 y4,z0,z0],[bq oK.length]⟩) 6 4 5 [⟨[ag.o30 v1,ag.o30 y4],[bq oK.length]⟩,⟨[ag.o30 v1,ag.o30 y4,z0],[bq oK.length]⟩,⟨[ag.o30 v1,ag.o30 y4,z0,z0],[bq oK.length]⟩] [⟨[ag.o30 v1,ag.o30 y4],[bq oK.length]⟩,⟨[ag.o30 v1,ag.o30 y4,z0],[bq oK.length]⟩,⟨[ag.o30 v1,ag.o30 y4,z0,z0],[bq oK.length]⟩] oc (by kernel_rfl) (by decide) (by decide) (by decide) rfl rfl (λBQ=>?_) (λBQ=>?_) ?_
   ·show kZ _ _ _ _ _ _ _ _ _ _ (_::_) _ _;exact .g (x:=.d (.agg (ag.row v1))) 0 2 ⟨aL.g (bP p8 sW rfl rfl (zae rfl) rfl),aL.g (bP p8 sW rfl rfl (zae rfl) rfl),aL.g (bP p8 sW rfl rfl (zae rfl) rfl),trivial⟩ rfl (by kernel_rfl) rfl (.g (x:=.d (.agg (bw.row y5))) 0 2 ⟨(av (en 88 rfl) rfl rfl (bB sH)),(av (en 88 rfl) rfl rfl (bB sH)),(av (en 88 rfl) rfl rfl (bB sH)),trivial⟩ rfl (by kernel_rfl) rfl (.g (x:=.d (.agg (ag.row y4))) 0 2 ⟨aL.g (bP p8 sW rfl rfl (zae rfl) rfl),aL.g (bP p8 sW rfl rfl (zae rfl) rfl),aL.g (bP p8 sW rfl rfl (zae rfl) rfl),trivial⟩ rfl (by kernel_rfl) rfl (.g (x:=.d (.agg (bw.row y6))) 0 2 ⟨(av (en 88 rfl) rfl rfl (bB xW)),(av (en 88 rfl) rfl rfl (bB xW)),(av (en 88 rfl) rfl rfl (bB xW)),trivial⟩ rfl (by kernel_rfl) rfl (.v (x:=.ref 2 0) 0 (gI KU rfl) rfl rfl rfl rfl (.v (x:=.ref 3 0) 1 (gI KU rfl) rfl rfl rfl rfl (.nil rfl (.sub (.Bm rfl rfl rfl rfl rfl rfl rfl rfl rfl rfl (.nil)) BQ)))))))
   ·show kZ _ _ _ _ _ _ _ _ _ _ (_::_) _ _;refine .g (x:=.d (.agg (ag.row v1))) 0 2 ⟨aL.g (bP p8 sW rfl rfl (zae rfl) rfl),aL.g (bP p8 sW rfl rfl (zae rfl) rfl),aL.g (bP p8 sW rfl rfl (zae rfl) rfl),trivial⟩ rfl (by kernel_rfl) rfl (.g (x:=.d (.agg (bw.row y5))) 0 2 ⟨(av (en 88 rfl) rfl rfl (bB sH)),(av (en 88 rfl) rfl rfl (bB sH)),(av (en 88 rfl) rfl rfl (bB sH)),trivial⟩ rfl (by kernel_rfl) rfl (.g (x:=.d (.agg (ag.row y4))) 0 2 ⟨aL.g (bP p8 sW rfl rfl (zae rfl) rfl),aL.g (bP p8 sW rfl rfl (zae rfl) rfl),aL.g (bP p8 sW rfl rfl (zae rfl) rfl),trivial⟩ rfl (by kernel_rfl) rfl (.g (x:=.d (.agg (bw.row y6))) 0 2 ⟨(av (en 88 rfl) rfl rfl (bB xW)),(av (en 88 rfl) rfl rfl (bB xW)),(av (en 88 rfl) rfl rfl (bB xW)),trivial⟩ rfl (by kernel_rfl) rfl (.v (x:=.ref 3 0) 1 (gI KU rfl) rfl rfl rfl rfl (.v (x:=.ref 2 0) 0 (gI KU rfl) rfl rfl rfl rfl (.nil rfl ?_))))));exact .reorder [0,1,3,2] [0] rfl rfl rfl (by rw [hS];rfl) (by rw [hS];rfl) (by rw [hS];rfl) rfl rfl (.Bm rfl rfl rfl rfl rfl rfl rfl rfl rfl rfl (.nil)) BQ
   show cn _ _ _ _ _ _ (_::_) _ _ _;obtain ⟨y7,J5,H⟩:=ae H;obtain ⟨cU,dj,H⟩:=ck2 H;refine .A 46 [.b y7,.i (y5.accepted+y5.bn),.i (y6.accepted+y6.bn)] rfl ⟨rfl,rfl,rfl,λhg=>aJ rfl rfl (dj hg),rfl,rfl,rfl,rfl,λhg=>aJ rfl rfl (cU hg),rfl,rfl,rfl,rfl,rfl,rfl,rfl,rfl,rfl,rfl,rfl,rfl,rfl,rfl,rfl,rfl,rfl,rfl,rfl,av (en 151 rfl) rfl rfl (tj J5)⟩ (.ite H rfl (λH=>?_) (λH=>?_))
   ·refine .E 4 rfl (.R func6 results6 rfl ?_);cases H;exact .m rfl (.ak _)
   ·obtain ⟨y8,Oq,H⟩:=ae H;obtain ⟨y9,P1,H⟩:=ae H;obtain ⟨Fx,Jh,H⟩:=ae H;obtain ⟨M7,Sd,H⟩:=ae H;refine .A 18 [.p 13,.d (.agg (ag.row y8)),.b y9,.b Fx,.b M7] rfl ⟨rfl,λhg=>av (en 116 rfl) rfl rfl (fV (aO Sd hg)),rfl,λhg=>av (en 92 rfl) rfl rfl (kV (aO Jh hg)),rfl,av (en 158 rfl) rfl rfl (Ju P1),av (en 91 rfl) rfl rfl (kU Oq),(show ct _ _=true by kernel_rfl)⟩ (.R func6 results6 rfl ?_);cases H;exact .m rfl (.ak _)
  ·intro qN gw;refine .lp H (λ⟨sM,ew⟩=>[(0,.d (aj 7 Event.row v0)),(3,.ref 0 0),(5,.ref 1 0),(6,.cY 12 (sM.map aa.row) 0),(7,.d (cI ew))]) (λ⟨sM,ew⟩=>⟨[ag.o30 v1,ag.o30 y4],[bq sM.length]⟩) (.k5 rfl rfl rfl rfl rfl (.nil)) rfl ?_;rintro ⟨sM,ew⟩ q1 H bF
   dsimp only at H
   unfold fR at H;refine .A 9 [.i (v1.aB.length:Int)] rfl (ir.n rfl rfl) (.ite H rfl (λH=>?_) (λH=>?_))
   ·obtain ⟨eL,H⟩:=au H;obtain ⟨PS,Se,H⟩:=ae H;refine .A 24 [.d (.ro (aa.row (nth v1.aB ew.toNat))),.d (.eF [.agg (aE.row PS.1),cI PS.2]),.r 2] rfl ⟨av (en 148 rfl) rfl rfl (He Se),ir.ix rfl rfl rfl eL⟩ (.ite H rfl (λH=>?_) (λH=>?_))
    ·obtain ⟨iJ,my,sx,H⟩:=ck3 H;refine .A 17 [.d (.ro (aa.row (nth v1.aB ew.toNat))),.d (aj 12 aa.row ([nth v1.aB ew.toNat]:List aa)),.a 0 58 12 aa.row (sM++([nth v1.aB ew.toNat]:List aa)),.i (ew+1)] rfl ⟨aJ rfl rfl sx,ir.a rfl rfl rfl rfl my,bp underlying23 fF iv iq rfl rfl rfl rfl rfl,ir.ix rfl rfl rfl iJ⟩ ?_;cases H;exact .t 2 1 bF rfl rfl rfl rfl rfl hS rfl
    ·obtain ⟨xK,H⟩:=au H;refine .A 7 [.i (ew+1)] rfl (aJ rfl rfl xK) ?_;cases H;exact .t 2 1 bF rfl rfl rfl rfl rfl hS rfl
   ·refine .E 1 rfl ?_;obtain ⟨q0,H9,mW⟩:=ca H;clear H;cases mW;cases bF;have H:=H9;exact .z (gw sM H) rfl rfl
theorem BW {fu gz:List aa} {r:Bool} (H:rv fu gz=some r):aF prog 26 [aj 12 aa.row fu,aj 12 aa.row gz] (·=cB r):=by
 refine aF.aZ func26 rfl ntmps26 rfl λS hS=>?_
 unfold rv at H;obtain ⟨y1,cZ,H⟩:=ae H;refine .A 11 [.b y1] rfl (av (en 151 rfl) rfl rfl (tj cZ)) (.R func26 results26 rfl ?_);cases H;exact .m rfl (.ak _)
theorem xQ {v0:List Event} {v1:ag} {v2:bY} {r:Bool} (H:kT v0 v1 v2=some r):aF prog 7 [aj 7 Event.row v0,.agg (ag.row v1),.agg (bY.row v2)] (·=cB r):=by
 refine aF.aZ func7 rfl ntmps7 rfl λS hS=>?_
 unfold kT at H;obtain ⟨y1,cZ,H⟩:=ae H;obtain ⟨y2,fU,H⟩:=ae H;obtain ⟨y3,jR,H⟩:=ae H;refine .A 25 [.r 0,.r 1,.b y1,.b y2,.b y3] rfl ⟨rfl,rfl,λhg=>av (en 0 rfl) rfl rfl (u0 (aO jR hg)),rfl,rfl,rfl,rfl,rfl,λhg=>av (en 156 rfl) rfl rfl (pH (aO fU hg)),rfl,av (en 157 rfl) rfl rfl (yE cZ)⟩ (.ite H rfl (λH=>?_) (λH=>?_))
 ·obtain ⟨y4,oB,H⟩:=ae H;refine .A 5 [.b y4] rfl (av (en 116 rfl) rfl rfl (fV oB)) (.R func7 results7 rfl ?_);cases H;exact .m rfl (.ak _)
 ·obtain ⟨y5,sH,H⟩:=ae H;refine .A 29 [.d (.eF [.agg (ag.row y5.1),cI y5.2]),.r 2] rfl ⟨rfl,rfl,rfl,rfl,av (en 90 rfl) rfl rfl (eS sH)⟩ (.ite H rfl (λH=>?_) (λH=>?_))
  ·obtain ⟨y6,xW,H⟩:=ae H;refine .A 5 [.b y6] rfl (av (en 116 rfl) rfl rfl (fV xW)) (.R func7 results7 rfl ?_);cases H;exact .m rfl (.ak _)
  ·obtain ⟨y7,J5,H⟩:=ae H;refine .A 23 [.d (.eF [.agg (ag.row y7.1),cI y7.2]),.r 3] rfl (av (en 90 rfl) rfl rfl (eS J5)) (.ite H rfl (λH=>?_) (λH=>?_))
   ·refine .E 4 rfl (.R func7 results7 rfl ?_);cases H;exact .m rfl (.ak _)
   ·obtain ⟨cU,H⟩:=au H;obtain ⟨y8,Oq,H⟩:=ae H;obtain ⟨y9,P1,H⟩:=ae H;obtain ⟨Fx,Jh,H⟩:=ae H;obtain ⟨M7,Sd,H⟩:=ae H;obtain ⟨dj,H⟩:=au H;obtain ⟨PS,Se,H⟩:=ae H;refine .A 73 [.i (v2.batch.number+1),.d (.eF [.agg (ag.row y8.1),cI y8.2]),.r 4,.b y9,.b Fx,.b M7,.i (y8.1.ba.length:Int),.i (y5.1.ba.length:Int),.i (v2.batch.records.length:Int),.i ((y5.1.ba.length:Int)+(v2.batch.records.length:Int)),.b PS] rfl ⟨rfl,λhg=>av (en 116 rfl) rfl rfl (fV (aO Se hg)),rfl,rfl,rfl,λhg=>aJ rfl rfl (dj hg),rfl,rfl,λhg=>ir.n rfl rfl,rfl,rfl,rfl,λhg=>J2.n rfl rfl,rfl,rfl,λhg=>J2.n rfl rfl,rfl,rfl,rfl,λhg=>av (en 161 rfl) rfl rfl (BW (aO Sd hg)),rfl,rfl,rfl,rfl,rfl,rfl,rfl,λhg=>av (en 161 rfl) rfl rfl (BW (aO Jh hg)),rfl,rfl,rfl,rfl,rfl,λhg=>av (en 154 rfl) rfl rfl (xb (aO P1 hg)),rfl,rfl,rfl,rfl,av (en 90 rfl) rfl rfl (eS Oq),aJ rfl rfl cU⟩ (.R func7 results7 rfl ?_);cases H;exact .m rfl (.ak _)
end Go.Proofs.YtimkfiaffohhkaaGreatDoor
namespace Go.Proofs.YtimkfiaffohhkaaGreatDoor
open Go.RowKit Go.Abs
theorem dR {α:Type} [Inhabited α] {b:Bool} {x:α}:bH b (some x)=some (if b=true then x else default):=by
 unfold bH;split <;> rfl
theorem uv {α R:Type} [Inhabited α] {step:Int->Option (Int ⊕ R)} (l:List α) (p:α->Bool) (fin bad:R) (hl:l.length<18446744073709551616)
  (h1:∀ i:Int,0<=i->i<(l.length:Int)->step i=some (if p (nth l i.toNat)=true then .inl (i+1) else .inr bad)) (h2:∀ i:Int,i=(l.length:Int)->step i=some (.inr fin)):loop step 0=some (if l.all p=true then fin else bad):=by
 have:=qU (step:=step) (λi:Int=>some (if (l.drop i.toNat).all p=true then fin else bad)) (λi=>0<=i/\i<=(l.length:Int)) (λi=>((l.length:Int) - i).toNat) (λi hI=>by
  by_cases hi:i<(l.length:Int)
  ·have hd:=p7 (l:=l) (k:=i.toNat) (by omega);rw [h1 i hI.1 hi];by_cases hp:p (nth l i.toNat)=true
   ·rw [zaa hp];refine .inr ⟨i+1,rfl,⟨by omega,by omega⟩,by omega,?_⟩;rw [show (i+1).toNat=i.toNat+1 from by omega,hd];simp [hp]
   ·rw [zab hp];refine .inl ⟨bad,rfl,?_⟩;rw [hd];simp [hp]
  ·have:i=(l.length:Int):=by omega
   refine .inl ⟨fin,h2 i this,?_⟩;rw [zds (by omega)];simp) (s:=0) ⟨by omega,by omega⟩ (by omega)
 simpa using this
def F0 (c:UInt8):Bool:=decide (48<=c) && decide (c<=57)
def pI (s:List UInt8):Bool:=s.all F0 && decide (1<=s.length) && decide (s.length<=15)
theorem Ou (s:List UInt8) (hl:s.length<1000000000):lj s=some (pI s):=by
 unfold lj;rw [uv s F0 (decide ((s.length:Int)>=1) && decide ((s.length:Int)<=15)) false (by omega) (λi h0 h1=>?_) (λi hi=>?_)]
 ·unfold pI;cases s.all F0 <;> simp;rw [zbo];simp;omega
 ·unfold mP qf;rw [zaa (by simpa using h1),af (by omega)];simp only [zac];rw [af (by omega)];unfold F0;simp only [ge_iff_le];cases decide (48<=nth s i.toNat) <;> cases decide (nth s i.toNat<=57) <;> rfl
 ·unfold mP j7;rw [zab (by simp;omega)];rfl
theorem F1 (s:List UInt8) (hl:s.length<1000000000):nE s=some (pI s):=by
 unfold nE;rw [uv s F0 (decide ((s.length:Int)>=1) && decide ((s.length:Int)<=15)) false (by omega) (λi h0 h1=>?_) (λi hi=>?_)]
 ·unfold pI;cases s.all F0 <;> simp;rw [zbo];simp;omega
 ·unfold qn;rw [zaa (by simpa using h1),af (by omega),af (by omega),af (by omega)];unfold F0;have e1:decide (nth s i.toNat<48)=!decide (48<=nth s i.toNat):=by rw [←decide_not];simp
  have e2:decide (nth s i.toNat > 57)=!decide (nth s i.toNat<=57):=by rw [←decide_not];simp
  rw [e1,e2];cases decide (48<=nth s i.toNat) <;> cases decide (nth s i.toNat<=57) <;> rfl
 ·unfold qn nD;rw [zab (by simp;omega)];rfl
def cW (r:aa):Int :=
 if ¬(1<=r.source/\r.source<=99/\1<=r.az/\r.az<=999999999) then 6
 else if ¬(1<=r.kind/\r.kind<=4) then 7
 else if pI r.a=false∨(pI r.b=false/\¬((r.kind=3∨r.kind=4)/\r.b=[])) then 12
 else if ¬(0<=r.start/\r.start<=12622780799) then 15
 else if ¬(0<=r.cz/\r.cz<=1099511627776)∨(r.kind=1/\r.cz > 604800) then 6
 else if r.kind=1/\r.start+r.cz > 12622780800 then 15
 else if ¬(0<=r.call/\r.call<=999999999/\0<=r.part/\r.part<=99) then 6
 else if ¬(r.part=0↔r.call=0)∨(r.last=true/\r.part=0) then 8
 else if ¬(0<=r.cF/\r.cF<=999) then 6
 else if r.bT=true/\r.cF=0 then 8
 else 0
theorem fS {α:Type} {b:Bool} {p:Prop} [Decidable p] {x y x' y':α} (h:b=true↔p) (hx:p->x=x') (hy:¬p->y=y'):(if b=true then x else y)=if p then x' else y':=by
 by_cases hp:p
 ·rw [zaa hp,zaa (h.2 hp),hx hp]
 ·rw [zab hp,zab (λhb=>hp (h.1 hb)),hy hp]
theorem K8 {α:Type} {p:Prop} [Decidable p] {x y:α}:(if p then some x else some y)=some (if p then x else y):=by split <;> rfl
theorem Ov (r:aa) (ha:r.a.length<1000000000) (hb:r.b.length<1000000000):mn r=some (cW r):=by
 have key:∀ m,(m=1099511627776/\r.kind≠1)∨(m=604800/\r.kind=1)->fA r m=some (cW r):=by
  intro m hm;unfold fA cW;simp only [dH,Ou _ ha,Ou _ hb,zac,dR];simp only [←K8];refine fS (by simp;grind) (λ_=>rfl) (λh1=>?_);refine fS (by simp;grind) (λ_=>rfl) (λh2=>?_);refine fS (by simp;grind) (λ_=>rfl) (λh3=>?_);refine fS (by simp;grind) (λ_=>rfl) (λh4=>?_);refine fS (by simp;grind) (λ_=>rfl) (λh5=>?_);rw [af (by omega)];refine fS (by simp) (λ_=>rfl) (λh6=>?_);refine fS (by simp;grind) (λ_=>rfl) (λh7=>?_);refine fS (by simp;grind) (λ_=>rfl) (λh8=>?_);refine fS (by simp;grind) (λ_=>rfl) (λh9=>?_);refine fS (by simp) (λ_=>rfl) (λNi=>rfl)
 unfold mn;split
 ·rename_i h;exact key _ (.inr ⟨rfl,by simpa using h⟩)
 ·rename_i h;exact key _ (.inl ⟨rfl,by simpa using h⟩)
theorem Sf (r:aa) (ha:r.a.length<1000000000) (hb:r.b.length<1000000000):se r=some (cW r):=by
 unfold se cW;simp only [nC,F1 _ ha,F1 _ hb,zac,dR];simp only [←K8];refine fS (by simp;grind) (λ_=>rfl) (λh1=>?_);refine fS (by simp;grind) (λ_=>rfl) (λh2=>?_);by_cases hva:pI r.a=true
 ·rw [zab (by simp [hva])];refine fS (by simp [hva];grind) (λ_=>rfl) (λh3=>?_);refine fS (by simp;grind) (λ_=>rfl) (λh4=>?_);refine fS (by simp;grind) (λ_=>rfl) (λh5=>?_);rw [af (by omega)];refine fS (by simp) (λ_=>rfl) (λh6=>?_);refine fS (by simp;grind) (λ_=>rfl) (λh7=>?_);refine fS (by simp;grind) (λ_=>rfl) (λh8=>?_);refine fS (by simp;grind) (λ_=>rfl) (λh9=>?_);refine fS (by simp) (λ_=>rfl) (λNi=>rfl)
 ·rw [zaa (by simp [hva]),zaa (by simp [hva])]
structure Good (r:aa):Prop where
 source:1<=r.source/\r.source<=99
 az:1<=r.az/\r.az<=999999999
 kind:1<=r.kind/\r.kind<=4
 a:pI r.a=true
 b:pI r.b=true∨(r.kind=3∨r.kind=4)/\r.b=[]
 start:0<=r.start/\r.start<=12622780799
 cz:0<=r.cz/\r.cz<=1099511627776
 call:0<=r.call/\r.call<=999999999
 part:0<=r.part/\r.part<=99
 cF:0<=r.cF/\r.cF<=999
theorem mJ {r:aa} (h:cW r=0):Good r:=by
 unfold cW at h;split at h;· cases h
 split at h;· cases h
 split at h;· cases h
 split at h;· cases h
 split at h;· cases h
 split at h;· cases h
 split at h;· cases h
 split at h;· cases h
 split at h;· cases h
 split at h;· cases h
 rename_i h1 h2 h3 h4 h5 h6 h7 h8 h9 Ni;refine ⟨by omega,by omega,by omega,?_,?_,by omega,by omega,by omega,by omega,by omega⟩
 ·cases hv:pI r.a with
  | true=>rfl
  | false=>exact absurd (.inl hv) h3
 ·cases hv:pI r.b with
  | true=>exact .inl rfl
  | false =>
   right;by_cases hh:(r.kind=3∨r.kind=4)/\r.b=[]
   ·exact hh
   ·exact absurd (.inr ⟨hv,hh⟩) h3
theorem rB {s:List UInt8} (h:pI s=true):s.length<=15:=by
 unfold pI at h;simp at h;exact h.2
def F2 (r:aa):List (List UInt8):=[(([118,116,100,99]:List UInt8).take r.kind.toNat).drop (r.kind-1).toNat,Go.Lib.itoa r.source,Go.Lib.itoa r.az,r.a,if r.b=[] then [45] else r.b,Go.Lib.itoa r.start,Go.Lib.itoa r.cz]
def DL (r:aa):List (List UInt8):=if r.part=0 then [] else [[112,97,114,116],Go.Lib.itoa r.call,Go.Lib.itoa r.part]++if r.last=true then [[108,97,115,116]] else []
def AS (r:aa):List (List UInt8):=if r.cF=0 then [] else [if r.bT=true then [105,110] else [111,117,116],Go.Lib.itoa r.cF]
def uw (r:aa):List (List UInt8):=F2 r++DL r++AS r
def K9 (r:aa):List UInt8:=Go.Lib.join (uw r) [32]
theorem Sg (sep:List UInt8) (xs:List (List UInt8)) (m:Nat) (h:∀ x,x∈xs->x.length<=m):(Go.Lib.join xs sep).length<=xs.length*(m+sep.length):=by
 cases xs with
 | nil=>simp [Go.Lib.join]
 | cons x r =>
  rw [Go.Lib.join_cons];have h1:∀ (r:List (List UInt8)),(∀ x,x∈r->x.length<=m)->(Go.Lib.joinTail sep r).length<=r.length*(m+sep.length):=by
   intro r
   induction r with
   | nil=>simp [Go.Lib.joinTail]
   | cons y r ih =>
    intro hr;have:=ih λz hz=>hr z (zag _ hz)
    have h2:=hr y zah;simp only [Go.Lib.joinTail,zap,zey,zak,zai,zdi] at *;omega
  have h3:=h1 r λz hz=>h z (zag _ hz)
  have h4:=h x zah;simp only [zak,zai,zdi] at *;omega
theorem xd {n:Int} (h0:0<=n) (h1:n<=9223372036854775807):(Go.Lib.itoa n).length<=21:=Go.Lib.itoa_length_le n (by omega) h1
theorem Si {r:aa} (g:Good r):(uw r).length<=13/\∀ x,x∈uw r->x.length<=21:=by
 have ha:=rB g.a;have hb:r.b.length<=15:=by
  rcases g.b with h|h
  ·exact rB h
  ·rw [h.2];simp
 obtain ⟨gs,ge,gk,_,_,gst,gu,gc,gp,gt⟩:=g;refine ⟨?_,λx hx=>?_⟩
 ·have h1:(DL r).length<=4:=by unfold DL;split;simp;split <;> simp
  have h2:(AS r).length<=2:=by unfold AS;split <;> simp
  have h3:(F2 r).length=7:=rfl;simp only [uw,zak];omega
 ·unfold uw at hx;rcases zbb.1 hx with hx|hx
  ·rcases zbb.1 hx with hx|hx
   ·unfold F2 at hx;simp only [zan,zeq,or_false] at hx;rcases hx with rfl|rfl|rfl|rfl|rfl|rfl|rfl
    ·simp;omega
    ·exact xd (by omega) (by omega)
    ·exact xd (by omega) (by omega)
    ·omega
    ·split
     ·simp
     ·omega
    ·exact xd (by omega) (by omega)
    ·exact xd (by omega) (by omega)
   ·unfold DL at hx;split at hx
    ·cases hx
    ·rcases zbb.1 hx with hx|hx
     ·simp only [zan,zeq,or_false] at hx;rcases hx with rfl|rfl|rfl
      ·simp
      ·exact xd (by omega) (by omega)
      ·exact xd (by omega) (by omega)
     ·split at hx
      ·simp only [zan,zeq,or_false] at hx;subst hx;simp
      ·cases hx
  ·unfold AS at hx;split at hx
   ·cases hx
   ·simp only [zan,zeq,or_false] at hx;rcases hx with rfl|rfl
    ·split <;> simp
    ·exact xd (by omega) (by omega)
theorem AT {n:Int} (h0:0<=n) (h1:n<=9223372036854775807):vi n=some (Go.Lib.itoa n):=by
 unfold vi;rw [af (by omega)]
theorem La (r:aa) (h:cW r=0):fM r=some (K9 r,0):=by
 have g:=mJ h;have ha:=rB g.a;have hb:r.b.length<=15:=by
  rcases g.b with h|h
  ·exact rB h
  ·rw [h.2];simp
 have Sa:∀ ws,ws=uw r->fe ws=some (K9 r,0):=by
  rintro ws rfl;unfold fe M4;obtain ⟨w1,w2⟩:=Si g;have:=Sg [32] (uw r) 21 w2;simp only [zai,zbh] at this;have h3:(uw r).length*22<=13*22:=zcz _ w1;rw [af ⟨by omega,by omega⟩];rfl
 have FL:∀ ws,ws=F2 r++DL r->ws.length<=11->ek r ws=some (K9 r,0):=by
  intro ws hw hl;unfold ek;by_cases ht:r.cF=0
  ·rw [zab (by simp [ht])];exact Sa _ (by rw [hw,uw,AS,zaa ht];simp)
  ·rw [zaa (by simp [ht])];unfold gx;rw [AT g.cF.1 (by have:=g.cF.2;omega)];simp only [zac];split
   ·rename_i hi;rw [af (by simp;omega)];exact Sa _ (by rw [hw,uw,AS,zab ht,zaa hi])
   ·rename_i hi;rw [af (by simp;omega)];exact Sa _ (by rw [hw,uw,AS,zab ht,zab hi])
 have qN:∀ b,b=(if r.b=[] then [45] else r.b)->ff r b=some (K9 r,0):=by
  rintro b rfl;unfold ff;have gk:=g.kind;rw [af (by omega),af (by simp;omega),AT (by have:=g.source;omega) (by have:=g.source;omega),AT (by have:=g.az;omega) (by have:=g.az;omega),AT g.start.1 (by have:=g.start;omega),AT g.cz.1 (by have:=g.cz;omega)];simp only [zac];by_cases hp:r.part=0
  ·rw [zab (by simp [hp])];exact FL _ (by rw [DL,zaa hp];simp [F2]) (by simp)
  ·rw [zaa (by simp [hp]),AT g.call.1 (by have:=g.call;omega),AT g.part.1 (by have:=g.part;omega)];simp only [zac];rw [af (by simp)];split
   ·rename_i hl;rw [af (by simp)];exact FL _ (by rw [DL,zab hp,zaa hl];simp [F2]) (by simp)
   ·rename_i hl;exact FL _ (by rw [DL,zab hp,zab hl];simp [F2]) (by simp)
 unfold fM;rw [Ov r (by omega) (by omega),h];simp only [zac];rw [zab (by simp)];split
 ·rename_i W4;exact qN _ (by rw [zaa (by simpa using W4)])
 ·rename_i W4;exact qN _ (by rw [zab (by simpa using W4)])
theorem Lb (r:aa) (ha:r.a.length<1000000000) (hb:r.b.length<1000000000):fM r=some (if cW r=0 then K9 r else [],cW r):=by
 by_cases h:cW r=0
 ·rw [La r h,zaa h,h]
 ·unfold fM;rw [Ov r ha hb,zab h];simp only [zac];rw [zaa (by simpa using h)]
def bZ (a b:aa):Bool:=decide (a.source=b.source) && decide (a.call=b.call)
theorem pS {a b:aa}:bZ a b=true↔a.source=b.source/\a.call=b.call:=by simp [bZ]
theorem nV {a b:aa} (h:bZ a b=true):bZ b a=true:=by rw [pS] at *;exact ⟨h.1.symm,h.2.symm⟩
theorem yF {a b c:aa} (h:bZ a b=true) (h':bZ b c=true):bZ a c=true:=by rw [pS] at *;exact ⟨h.1.trans h'.1,h.2.trans h'.2⟩
theorem BX {a x y:aa} (h:bZ x y=true):bZ a x=bZ a y:=by
 rw [pS] at h;simp [bZ,h.1,h.2]
def Lt (a b:aa):Prop:=a.source<b.source∨(a.source=b.source/\(a.call<b.call∨(a.call=b.call/\a.part<b.part)))
instance (a b:aa):Decidable (Lt a b):=by unfold Lt;infer_instance
def Le (a b:aa):Prop:=¬ Lt b a
instance (a b:aa):Decidable (Le a b):=by unfold Le;infer_instance
theorem Jv {a b:aa}:Le a b↔a.source<b.source∨(a.source=b.source/\(a.call<b.call∨(a.call=b.call/\a.part<=b.part))):=by
 unfold Le Lt;omega
theorem Lc {a b c:aa} (h:Le a b) (h':Le b c):Le a c:=by rw [Jv] at *;omega
theorem Ld {a b:aa} (h:Lt a b):Le a b:=by rw [Jv];unfold Lt at h;omega
theorem Uv {a b:aa} (h:Le a b) (hc:bZ a b=true):a.part<=b.part:=by rw [Jv] at h;rw [pS] at hc;omega
abbrev P8 (l:List aa):Prop:=l.Pairwise Le
def pn:List aa->aa->List aa
 | [],p=>[p]
 | r::l,p=>if Lt p r then p::r::l else r::pn l p
theorem wg:∀ (l:List aa) (p:aa),(pn l p).Perm (p::l)
 | [],p=>.refl _
 | r::l,p=>by
  unfold pn;split
  ·exact .refl _
  ·exact ((wg l p).cons r).trans (.swap _ _ _)
theorem F3 (l:List aa) (p:aa):(pn l p).length=l.length+1:=(wg l p).length_eq
theorem BY {l:List aa} {p x:aa}:x∈pn l p↔x=p∨x∈l:=by rw [(wg l p).mem_iff,zan]
theorem F4:∀ {l:List aa} {p:aa},P8 l->P8 (pn l p)
 | [],p,_=>by simp [pn,P8]
 | r::l,p,h=>by
  unfold pn;have h2:=zax.1 h;split
  ·rename_i hp;refine zax.2 ⟨λx hx=>?_,h⟩;rcases zan.1 hx with e|hx
   ·rw [e];exact Ld hp
   ·exact Lc (Ld hp) (h2.1 x hx)
  ·rename_i hp;refine zax.2 ⟨λx hx=>?_,F4 h2.2⟩;rcases BY.1 hx with e|hx
   ·rw [e];exact hp
   ·exact h2.1 x hx
theorem DM (q:aa->Bool) {p:aa} (hp:q p=false):∀ (l:List aa),(pn l p).filter q=l.filter q
 | []=>by simp [pn,hp]
 | r::l=>by
  unfold pn;split
  ·rw [zet (by simp [hp])]
  ·simp only [zbk,DM q hp l]
def kG (last:Bool) (x:aa):Int->List aa->List aa×List aa
 | _,[]=>([],[])
 | n,r::l=>if bZ r x=true/\r.part=n then (if last=true/\r.last=true then ([r],l) else (r::(kG last x (n+1) l).1,(kG last x (n+1) l).2)) else ((kG last x n l).1,r::(kG last x n l).2)
theorem yG (last:Bool) (x:aa):∀ (n:Int) (l:List aa),((kG last x n l).1++(kG last x n l).2).Perm l
 | _,[]=>.refl _
 | n,r::l=>by
  unfold kG;split
  ·split
   ·exact .refl _
   ·exact (yG last x (n+1) l).cons r
  ·exact (zfw).trans ((yG last x n l).cons r)
theorem BZ (last:Bool) (x:aa):∀ (n:Int) (l:List aa),(kG last x n l).2.Sublist l
 | _,[]=>.slnil
 | n,r::l=>by
  unfold kG;split
  ·split
   ·exact List.sublist_cons_self _ _
   ·exact (BZ last x (n+1) l).cons r
  ·exact (BZ last x n l).cons_cons r
theorem AU (last:Bool) (x:aa) (q:aa->Bool) (hq:∀ r,bZ r x=true->q r=false):∀ (n:Int) (l:List aa),(kG last x n l).2.filter q=l.filter q
 | _,[]=>rfl
 | n,r::l=>by
  unfold kG;split
  ·rename_i h;split
   ·rw [zet (by simp [hq r h.1])]
   ·rw [zet (by simp [hq r h.1])];exact AU last x q hq (n+1) l
  ·simp only [zbk,AU last x q hq n l]
theorem qH (last:Bool) (x:aa) (q:aa->Bool) (hq:∀ r,bZ r x=true->q r=true):∀ (n:Int) (l:List aa),(kG last x n (l.filter q)).1=(kG last x n l).1
 | _,[]=>rfl
 | n,r::l=>by
  by_cases h:q r=true
  ·rw [List.filter_cons_of_pos h];unfold kG;simp only [qH last x q hq (n+1) l,qH last x q hq n l];split
   ·split <;> rfl
   ·rfl
  ·rw [zet h,qH last x q hq n l]
   conv=>rhs;unfold kG
   rw [zab (λhc=>h (hq r hc.1))]
theorem Ex (last:Bool) {x y:aa} (h:bZ x y=true):∀ (n:Int) (l:List aa),kG last x n l=kG last y n l
 | _,[]=>rfl
 | n,r::l=>by
  unfold kG;rw [BX (a:=r) h,Ex last h (n+1) l,Ex last h n l]
theorem B0 (last:Bool) {x:aa}:∀ {n:Int} {l:List aa},(∀ r,r∈l->¬(bZ r x=true/\r.part=n))->kG last x n l=([],l)
 | _,[],_=>rfl
 | n,r::l,h=>by
  unfold kG;rw [zab (h r (zah ..)),B0 last (λy hy=>h y (zag _ hy))]
theorem Ow (last:Bool) {x:aa} {n:Int} {l:List aa}:∀ {pre:List aa},(∀ r,r∈pre->¬(bZ r x=true/\r.part=n))->kG last x n (pre++l)=((kG last x n l).1,pre++(kG last x n l).2)
 | [],_=>rfl
 | r::pre,h=>by
  rw [List.cons_append]
  conv=>lhs;unfold kG
  rw [zab (h r (zah ..)),Ow last (λy hy=>h y (zag _ hy))];rfl
theorem F5 (last:Bool) {x:aa} {post:List aa} (h:∀ r,r∈post->bZ r x=false):∀ {n:Int} {l:List aa},kG last x n (l++post)=((kG last x n l).1,(kG last x n l).2++post)
 | n,[]=>by rw [zcc,B0 last (λr hr hc=>by simp [h r hr] at hc)];rfl
 | n,r::l=>by
  rw [List.cons_append];unfold kG;simp only [F5 last h (n:=n+1) (l:=l),F5 last h (n:=n) (l:=l)];split
  ·split <;> rfl
  ·rfl
def AV:List aa->Int
 | []=>0
 | r::l=>r.cz+AV l
def Jw (q:aa) (u:Int):aa:=⟨q.source,q.az,q.kind,q.a,q.b,q.start,u,0,0,false,q.cF,q.bT⟩
def Comm (p q:aa):Prop:=p.source=q.source/\p.call=q.call/\p.kind=q.kind/\p.a=q.a/\p.b=q.b/\p.cF=q.cF/\p.bT=q.bT
instance (a b:aa):Decidable (Comm a b):=by unfold Comm;infer_instance
def ux:List aa->Option aa
 | []=>none
 | q::l=>if ((q::l).all λp=>decide (p.part≠0/\cW p=0/\Comm p q))=true/\cW (Jw q (AV (q::l)))=0 then some (Jw q (AV (q::l))) else none
def Jx:Int->List aa->Bool
 | _,[]=>true
 | n,r::l=>decide (r.part=n) && decide (r.last=l.isEmpty) && Jx (n+1) l
def jG (l:List aa):Option aa:=if Jx 1 l=true then ux l else none
theorem AW:jG []=none:=rfl
def hC:Nat->List aa->aa->List aa×List aa
 | 0,now,_=>([],now)
 | m+1,now,x=>match jG (kG true x 1 now).1 with
  | none=>([],now)
  | some w=>(w::(hC m (kG true x 1 now).2 x).1,(hC m (kG true x 1 now).2 x).2)
def jH (now:List aa) (r:aa):List aa×List aa:=if r.part=0 then ([r],now) else hC (now.length+2) (pn now r) r
def eX:List aa->List aa->List aa×List aa
 | now,[]=>([],now)
 | now,r::l=>((jH now r).1++(eX (jH now r).2 l).1,(eX (jH now r).2 l).2)
structure Sj (l:List aa):Prop where
 HY:P8 l
 ok:∀ r,r∈l->cW r=0/\r.part≠0
 nc:∀ x,jG (kG true x 1 l).1=none
theorem zk {last:Bool} {x:aa} {n:Int} {l:List aa}:(kG last x n l).1.length+(kG last x n l).2.length=l.length:=by
 have:=(yG last x n l).length_eq
 rwa [zak] at this
theorem tB {l:List aa} {w:aa} (h:jG l=some w):l≠[]:=by intro e;rw [e,AW] at h;cases h
theorem F6 (x:aa):∀ (m:Nat) (now:List aa),now.length<m->jG (kG true x 1 (hC m now x).2).1=none/\(hC m now x).2.Sublist now/\(∀ q:aa->Bool,(∀ r,bZ r x=true->q r=false)->(hC m now x).2.filter q=now.filter q)
 | 0,now,h=>by omega
 | m+1,now,h=>by
  unfold hC;split
  ·rename_i hc;exact ⟨hc,List.Sublist.refl _,λ_ _=>rfl⟩
  ·rename_i w hc;have hl:=zk (last:=true) (x:=x) (n:=1) (l:=now);have hp:0<(kG true x 1 now).1.length:=zde.2 (tB hc);obtain ⟨h1,h2,h3⟩:=F6 x m (kG true x 1 now).2 (by omega);refine ⟨h1,h2.trans (BZ _ _ _ _),λq hq=>?_⟩;rw [h3 q hq,AU true x q hq]
theorem P9 {now:List aa} {r:aa} (h:Sj now) (hr:cW r=0):Sj (jH now r).2:=by
 unfold jH;split
 ·exact h
 ·rename_i hp;obtain ⟨h1,h2,h3⟩:=F6 r (now.length+2) (pn now r) (by rw [F3];omega);refine ⟨(F4 h.HY).sublist h2,λy hy=>?_,λx=>?_⟩
  ·rcases BY.1 (h2.subset hy) with e|hy
   ·rw [e];exact ⟨hr,hp⟩
   ·exact h.ok y hy
  ·by_cases hc:bZ x r=true
   ·rw [Ex true hc];exact h1
   ·have hq:∀ y,bZ y r=true->(λy=>bZ y x) y=false:=λy hy=>by
     cases hyx:bZ y x with
     | false=>simpa using hyx
     | true=>exact absurd (yF (nV hyx) hy) hc
    have e:=h3 (λy=>bZ y x) hq;rw [DM _ (by simpa using hq r (by simp [bZ]))] at e;rw [←qH true x (λy=>bZ y x) (λ_ h=>h),e,qH true x _ (λ_ h=>h)];exact h.nc x
theorem C5:∀ {l now:List aa},Sj now->(∀ r,r∈l->cW r=0)->Sj (eX now l).2
 | [],_,h,_=>h
 | r::l,_,h,hl=>by
  unfold eX;exact C5 (P9 h (hl r (zah ..))) (λy hy=>hl y (zag _ hy))
abbrev Lf (l:List aa):Prop:=l.Pairwise λa b=>¬(bZ a b=true/\a.part=b.part)
def Sk (T:List aa) (x:aa) (n:Int):Option aa:=T.find? (λr=>bZ r x && decide (r.part=n))
theorem Qa {a b:aa} (h:¬(bZ a b=true/\a.part=b.part)):¬(bZ b a=true/\b.part=a.part):=λh'=>h ⟨nV h'.1,h'.2.symm⟩
theorem Lf.perm {l l':List aa} (h:Lf l) (p:l.Perm l'):Lf l':=(p.pairwise_iff (λh=>Qa h)).1 h
theorem Ox {T:List aa} (h:Lf T) {x:aa} {n:Int} {r:aa}:Sk T x n=some r↔r∈T/\bZ r x=true/\r.part=n:=by
 constructor
 ·intro hf;have h1:=List.find?_some hf;simp at h1;exact ⟨List.mem_of_find?_eq_some hf,h1⟩
 ·intro ⟨hm,hc,hn⟩
  induction T with
  | nil=>cases hm
  | cons y T ih =>
   have h2:=zax.1 h;unfold Sk;rcases zan.1 hm with e|hm
   ·rw [←e,List.find?_cons_of_pos (by simp [hc,hn])]
   ·rw [List.find?_cons_of_neg (by
     intro hy;simp at hy;exact h2.1 r hm ⟨yF hy.1 (nV hc),by omega⟩)]
    exact ih h2.2 hm
theorem Sl {T T':List aa} (h:Lf T) (p:T.Perm T') (x:aa) (n:Int):Sk T x n=Sk T' x n:=by
 apply Option.ext;intro r;rw [Ox h,Ox (h.perm p),p.mem_iff]
def X8 (T:List aa) (x:aa):Nat->Int->List aa
 | 0,_=>[]
 | m+1,n=>match Sk T x n with
  | none=>[]
  | some r=>r::if r.last=true then [] else X8 T x m (n+1)
theorem wh {T T':List aa} {x y:aa} (h:∀ n,Sk T x n=Sk T' y n):∀ (m:Nat) (n:Int),X8 T x m n=X8 T' y m n
 | 0,_=>rfl
 | m+1,n=>by
  unfold X8;rw [h n,wh h m (n+1)]
theorem Ey {T:List aa} {x:aa}:∀ (m:Nat) (n:Int) (r:aa),r∈X8 T x m n->r∈T/\bZ r x=true
 | 0,_,r,h=>by cases h
 | m+1,n,r,h=>by
  unfold X8 at h;split at h
  ·cases h
  ·rename_i y hy;have h1:=List.find?_some hy;simp at h1;rcases zan.1 h with e|h
   ·rw [e];exact ⟨List.mem_of_find?_eq_some hy,h1.1⟩
   ·split at h
    ·cases h
    ·exact Ey m (n+1) r h
abbrev Lg (T:List aa) (x:aa):List aa:=X8 T x 99 1
theorem B1 {T T':List aa} (h:Lf T) (p:T.Perm T') (x:aa):Lg T x=Lg T' x:=wh (Sl h p x) _ _
theorem Uw {T:List aa} {x y:aa} (h:bZ x y=true):Lg T x=Lg T y:=wh (λn=>by
 unfold Sk;congr 1;funext r;rw [BX (a:=r) h]) _ _
theorem Ai {C U:List aa} {x:aa} (h:∀ r,r∈C->bZ r x=false) (n:Int):Sk (C++U) x n=Sk U x n:=by
 unfold Sk;rw [List.find?_append,List.find?_eq_none.2 (λr hr=>by simp [h r hr])];rfl
theorem HZ:∀ (n:Int) (l:List aa),l≠[]->Jx n l=true->l.getLast?.map (·.last)=some true
 | _,[],h,_=>absurd rfl h
 | n,[r],_,h=>by simp [Jx] at h;simp [h]
 | n,r::y::l,_,h=>by
  unfold Jx at h;simp only [zaq] at h;rw [List.getLast?_cons_cons];exact HZ (n+1) (y::l) (by simp) h.2
theorem Lh {l:List aa} {w:aa} (h:jG l=some w):l≠[]/\l.getLast?.map (·.last)=some true:=by
 have h0:=tB h;refine ⟨h0,HZ 1 l h0 ?_⟩;unfold jG at h;split at h
 ·assumption
 ·cases h
def Oy (T:List aa) (w:aa) (U:List aa):Prop:=Lf T/\∃ x,jG (Lg T x)=some w/\T.Perm (Lg T x++U)
theorem Oy.perm {T T' U:List aa} {w:aa} (h:Oy T w U) (p:T.Perm T'):Oy T' w U:=by
 obtain ⟨h1,x,h2,h3⟩:=h;refine ⟨h1.perm p,x,?_,?_⟩
 ·rw [←B1 h1 p];exact h2
 ·rw [←B1 h1 p];exact p.symm.trans h3
theorem Oy.len {T U:List aa} {w:aa} (h:Oy T w U):U.length<T.length:=by
 obtain ⟨h1,x,h2,h3⟩:=h;have:=h3.length_eq;have h4:0<(Lg T x).length:=zde.2 (tB h2);rw [zak] at this;omega
theorem Oy.dist {T U:List aa} {w:aa} (h:Oy T w U):Lf U:=by
 obtain ⟨h1,x,h2,h3⟩:=h;exact (zea.1 (h1.perm h3)).2.1
theorem filter_none {p:aa->Bool} {l:List aa} (h:∀ r,r∈l->p r=false):l.filter p=[]:=zdr.2 (λr hr=>by simp [h r hr])
theorem filter_all {p:aa->Bool} {l:List aa} (h:∀ r,r∈l->p r=true):l.filter p=l:=zdt.2 h
theorem Jy (p:aa->Bool) (l:List aa):l.Perm (l.filter p++l.filter (λr=>!p r)):=(List.filter_append_perm p l).symm
theorem Oy.Ux {T U1 U2:List aa} {w1 w2:aa} (h1:Oy T w1 U1) (h2:Oy T w2 U2):(w1=w2/\U1.Perm U2)∨∃ V,Oy U1 w2 V/\Oy U2 w1 V:=by
 have d1:=h1.dist;have d2:=h2.dist;obtain ⟨hd,x,hx,px⟩:=h1;obtain ⟨_,y,hy,py⟩:=h2;by_cases hc:bZ x y=true
 ·left;rw [Uw hc] at hx px;rw [hx] at hy;exact ⟨by injection hy,(List.perm_append_left_iff _).1 (px.symm.trans py)⟩
 ·right;have nx:∀ r,r∈Lg T x->bZ r y=false:=λr hr=>by
   cases hry:bZ r y with
   | false=>rfl
   | true=>exact absurd (yF (nV (Ey _ _ r hr).2) hry) hc
  have ny:∀ r,r∈Lg T y->bZ r x=false:=λr hr=>by
   cases hrx:bZ r x with
   | false=>rfl
   | true=>exact absurd (nV (yF (nV (Ey _ _ r hr).2) hrx)) hc
  have e1:Lg U1 y=Lg T y:=by
   rw [B1 hd px y];exact (wh (Ai nx) _ _).symm
  have e2:Lg U2 x=Lg T x:=by
   rw [B1 hd py x];exact (wh (Ai ny) _ _).symm
  have fy:=px.symm.trans py;have q1:=fy.filter (λr=>bZ r y);rw [zdu,zdu,filter_none nx,filter_all (λr hr=>(Ey _ _ r hr).2),zcc] at q1;have p1:U1.Perm (Lg T y++(U2.filter (λr=>bZ r y)++U1.filter (λr=>!bZ r y))):=by
   refine (Jy (λr=>bZ r y) U1).trans ?_;rw [←zat];exact q1.append_right _
  refine ⟨U2.filter (λr=>bZ r y)++U1.filter (λr=>!bZ r y),⟨d1,y,by rw [e1];exact hy,by rw [e1];exact p1⟩,⟨d2,x,by rw [e2];exact hx,?_⟩⟩;rw [e2];have k1:T.Perm (Lg T y++(Lg T x++(U2.filter (λr=>bZ r y)++U1.filter (λr=>!bZ r y)))):=by
   refine px.trans ((p1.append_left _).trans ?_);rw [←zat,←zat (Lg T y)];exact zfy.append_right _
  exact (List.perm_append_left_iff _).1 (py.symm.trans k1)
inductive zM:List aa->List aa->List aa->Prop where
 | nil {T U:List aa}:T.Perm U->zM T [] U
 | cons {T U V:List aa} {w:aa} {o:List aa}:Oy T w U->zM U o V->zM T (w::o) V
def NF (T:List aa):Prop:=∀ w U,¬ Oy T w U
theorem zM.perm {T T' o U:List aa} (h:zM T o U) (p:T.Perm T'):zM T' o U:=by
 cases h with
 | nil q=>exact .nil (p.symm.trans q)
 | cons r s=>exact .cons (r.perm p) s
theorem zM.ex:∀ (n:Nat) (T:List aa),T.length<=n->∃ o U,zM T o U/\NF U
 | n,T,hn=>by
  by_cases h:NF T
  ·exact ⟨[],T,.nil (.refl _),h⟩
  ·simp only [NF,Classical.not_forall,Classical.not_not] at h;obtain ⟨w,U,h⟩:=h;have hl:=h.len
   match n,hn with
   | 0,hn=>omega
   | n+1,hn =>
    obtain ⟨o,V,h1,h2⟩:=zM.ex n U (by omega);exact ⟨w::o,V,.cons h h1,h2⟩
theorem zM.uniq:∀ (n:Nat) {T o1 o2 U1 U2:List aa},T.length<=n->zM T o1 U1->NF U1->zM T o2 U2->NF U2->o1.Perm o2/\U1.Perm U2
 | n,T,o1,o2,U1,U2,hn,h1,n1,h2,n2=>by
  cases h1 with
  | nil p1 =>
   cases h2 with
   | nil p2=>exact ⟨.refl _,p1.symm.trans p2⟩
   | cons r s=>exact absurd (r.perm p1) (n1 _ _)
  | cons r1 s1 =>
   rename_i V1 w1 q1;cases h2 with
   | nil p2=>exact absurd (r1.perm p2) (n2 _ _)
   | cons r2 s2 =>
    rename_i V2 w2 q2;have l1:=r1.len;have l2:=r2.len
    match n,hn with
    | 0,hn=>omega
    | n+1,hn =>
     rcases r1.Ux r2 with ⟨e,p⟩|⟨V,k1,k2⟩
     ·obtain ⟨a,b⟩:=zM.uniq n (by omega) s1 n1 (s2.perm p.symm) n2;rw [e];exact ⟨a.cons _,b⟩
     ·obtain ⟨o3,U3,s3,n3⟩:=zM.ex V.length V (zar _);obtain ⟨a1,b1⟩:=zM.uniq n (by omega) s1 n1 (.cons k1 s3) n3;obtain ⟨a2,b2⟩:=zM.uniq n (by omega) s2 n2 (.cons k2 s3) n3;exact ⟨(a1.cons _).trans ((List.Perm.swap _ _ _).trans (a2.cons _).symm),b1.trans b2.symm⟩
def oD:Int->List Int->List aa->List aa×List aa
 | _,_,[]=>([],[])
 | _,[],r::l=>([],r::l)
 | i,a::at',r::l=>if a=i then (r::(oD (i+1) at' l).1,(oD (i+1) at' l).2) else ((oD (i+1) (a::at') l).1,r::(oD (i+1) (a::at') l).2)
def nX (last:Bool) (x:aa):Int->Int->List aa->List Int
 | _,_,[]=>[]
 | n,i,r::l=>if bZ r x=true/\r.part=n then (if last=true/\r.last=true then [i] else i::nX last x (n+1) (i+1) l) else nX last x n (i+1) l
theorem rC (i:Int) (l:List aa):oD i [] l=([],l):=by cases l <;> rfl
theorem B2 (last:Bool) (x:aa):∀ (n i:Int) (l:List aa),∀ a,a∈nX last x n i l->i<=a/\a<i+l.length
 | _,_,[]=>by simp [nX]
 | n,i,r::l=>by
  intro a h;unfold nX at h;simp only [zai];split at h
  ·split at h
   ·simp at h;omega
   ·rcases zan.1 h with e|h
    ·omega
    ·have:=B2 last x (n+1) (i+1) l a h;omega
  ·have:=B2 last x n (i+1) l a h;omega
theorem F7 (last:Bool) (x:aa):∀ (n i:Int) (l:List aa),(nX last x n i l).Pairwise (· < ·)
 | _,_,[]=>.nil
 | n,i,r::l=>by
  unfold nX;split
  ·split
   ·simp
   ·refine zax.2 ⟨λa ha=>?_,F7 last x (n+1) (i+1) l⟩;have:=B2 last x (n+1) (i+1) l a ha;omega
  ·exact F7 last x n (i+1) l
theorem Nj {i:Int} {at':List Int} {r:aa} {l:List aa} (h:∀ a,a∈at'->i+1<=a):oD i at' (r::l)=((oD (i+1) at' l).1,r::(oD (i+1) at' l).2):=by
 cases at' with
 | nil=>rw [rC,rC]
 | cons a at' =>
  conv=>lhs;unfold oD
  rw [zab (by have:=h a (zah ..);omega)]
theorem xe (last:Bool) (x:aa):∀ (n i:Int) (l:List aa),oD i (nX last x n i l) l=kG last x n l
 | _,_,[]=>by simp [nX,oD,kG]
 | n,i,r::l=>by
  unfold nX kG;split
  ·split
   ·unfold oD;rw [zaa rfl,rC]
   ·unfold oD;rw [zaa rfl,xe last x (n+1) (i+1) l]
  ·rw [Nj (λa ha=>(B2 _ _ _ _ _ a ha).1),xe last x n (i+1) l]
def Jz (x:aa) (l:List aa):List aa:=l.takeWhile (λr=>bZ r x)
def F8 (x:aa) (l:List aa):List aa:=l.dropWhile (λr=>bZ r x)
theorem Nk (x:aa):bZ x x=true:=by simp [bZ]
theorem Sn (x:aa) (l:List aa):Jz x l++F8 x l=l:=List.takeWhile_append_dropWhile
theorem Sp {x:aa} {l:List aa}:∀ r,r∈Jz x l->bZ r x=true:=λr h=>by
 have:=List.all_takeWhile (p:=λr=>bZ r x) (l:=l);rw [zaz] at this;exact this r h
theorem Qb {x:aa} {l:List aa} (h:P8 (x::l)):∀ r,r∈F8 x (x::l)->bZ r x=false:=by
 intro r hr;unfold F8 at hr;rw [List.dropWhile_cons_of_pos (p:=λr=>bZ r x) (Nk x)] at hr;have h2:=zax.1 h;have hs:(l.dropWhile (λr=>bZ r x)).Sublist l:=List.dropWhile_sublist _;have h3:=h2.2.sublist hs;cases hd:l.dropWhile (λr=>bZ r x) with
 | nil=>rw [hd] at hr;cases hr
 | cons y t =>
  have hy:bZ y x=false:=by
   have:=List.head?_dropWhile_not (λr=>bZ r x) l;rw [hd] at this;simpa using this
  rw [hd] at hr h3;rcases zan.1 hr with e|hr
  ·rw [e];exact hy
  ·have k1:=h2.1 y (hs.subset (by rw [hd];exact zah ..));have k2:=(zax.1 h3).1 r hr;cases hc:bZ r x with
   | false=>rfl
   | true =>
    exfalso;rw [Jv] at k1 k2;rw [pS] at hc;have:¬ bZ y x=true:=by rw [hy];simp
    rw [pS] at this;omega
theorem Li {S R α:Type} [Inhabited α] {step:S->Option (S ⊕ R)} (l:List α) (idx:S->Int) (F:S->List α->Option R) (I:S->List α->Prop) (hl:l.length<1000000000)
  (h0:∀ s,I s []->idx s=(l.length:Int)->∃ r,step s=some (.inr r)/\F s []=some r)
  (h1:∀ s a t,I s (a::t)->0<=idx s->idx s<(l.length:Int)->nth l (idx s).toNat=a->idx s+1+(t.length:Int)=(l.length:Int) ->
   (∃ r,step s=some (.inr r)/\F s (a::t)=some r)∨∃ s',step s=some (.inl s')/\I s' t/\idx s'=idx s+1/\F s' t=F s (a::t))
  {s:S} (hi:0<=idx s/\idx s<=(l.length:Int)) (hI:I s (l.drop (idx s).toNat)):loop step s=F s (l.drop (idx s).toNat):=by
 refine qU (step:=step) (λs=>F s (l.drop (idx s).toNat)) (λs=>(0<=idx s/\idx s<=(l.length:Int))/\I s (l.drop (idx s).toNat)) (λs=>((l.length:Int) - idx s).toNat) (λs hs=>?_) ⟨hi,hI⟩ (by omega);obtain ⟨⟨b0,b1⟩,hs⟩:=hs;by_cases cJ:idx s<(l.length:Int)
 ·have hd:=p7 (l:=l) (k:=(idx s).toNat) (by omega);rw [hd] at hs ⊢;rcases h1 s _ _ hs b0 cJ rfl (by rw [zbg];omega) with ⟨r,e1,e2⟩|⟨s',e1,e2,e3,e4⟩
  ·exact .inl ⟨r,e1,e2⟩
  ·refine .inr ⟨s',e1,⟨by omega,?_⟩,by omega,?_⟩
   ·rw [e3,show (idx s+1).toNat=(idx s).toNat+1 from by omega];exact e2
   ·rw [e3,show (idx s+1).toNat=(idx s).toNat+1 from by omega];exact e4
 ·have he:idx s=(l.length:Int):=by omega
  rw [zds (by omega)] at hs ⊢;exact .inl (h0 s hs he)
theorem bj {S R α:Type} [Inhabited α] {step:S->Option (S ⊕ R)} (l:List α) (idx:S->Int) (F:S->List α->Option R) (I:S->List α->Prop) (hl:l.length<1000000000)
  (h0:∀ s,I s []->idx s=(l.length:Int)->∃ r,step s=some (.inr r)/\F s []=some r)
  (h1:∀ s a t,I s (a::t)->0<=idx s->idx s<(l.length:Int)->nth l (idx s).toNat=a->idx s+1+(t.length:Int)=(l.length:Int) ->
   (∃ r,step s=some (.inr r)/\F s (a::t)=some r)∨∃ s',step s=some (.inl s')/\I s' t/\idx s'=idx s+1/\F s' t=F s (a::t))
  {s:S} (hi:idx s=0) (hI:I s l):loop step s=F s l:=by
 have:=Li l idx F I hl h0 h1 (s:=s) ⟨by omega,by omega⟩ (by rw [hi];exact hI);rw [hi] at this;exact this
def Sm (r:aa):Prop:=r.a.length<=200/\r.b.length<=200
instance (r:aa):Decidable (Sm r):=by unfold Sm;infer_instance
theorem zl (r:aa) (h:Sm r):dJ r=some (cW r):=by
 unfold dJ;unfold Sm at h;rw [Lb r (by omega) (by omega)];rfl
theorem yH (r:aa) (h:Sm r):il r=some (cW r):=by
 unfold il;unfold Sm at h;rw [Sf r (by omega) (by omega)];rfl
theorem JA {r:aa} (h:cW r=0):Sm r:=by
 have g:=mJ h;have ha:=rB g.a;unfold Sm;rcases g.b with h|h
 ·have:=rB h;omega
 ·rw [h.2];simp;omega
theorem aa.tn (r:aa):dO r.bJ r.bJ=true:=by simp [aa.bJ,dO,Mm]
theorem VM {q:aa} (h:Sm q) (u:Int):Sm (Jw q u):=h
def X9:aa×Bool:=((⟨0,0,0,([]:List UInt8),([]:List UInt8),0,0,0,0,false,0,false⟩:aa),false)
def zN:Option aa->aa×Bool
 | none=>X9
 | some w=>(w,true)
def VN (q p:aa):Prop:=p.part≠0/\cW p=0/\Comm p q
instance (q p:aa):Decidable (VN q p):=by unfold VN;infer_instance
theorem Lj {q:aa} {u v:Int} (h:cW (Jw q v)=0) (h0:0<=u) (h1:u<=v):cW (Jw q u)=0:=by
 have g:=mJ h;unfold cW Jw at h ⊢;simp only at h ⊢;split at h;· cases h
 split at h;· cases h
 split at h;· cases h
 split at h;· cases h
 split at h;· cases h
 split at h;· cases h
 rename_i q1 q2 q3 q4 q5 q6;rw [zab q1,zab q2,zab q3,zab q4,zab (by omega),zab (by omega)];exact h
theorem Lk {q:aa}:∀ {t:List aa},(∀ p,p∈t->VN q p)->0<=AV t
 | [],_=>by simp [AV]
 | r::t,h=>by
  have:=Lk (λp hp=>h p (zag _ hp));have:=(mJ (h r (zah ..)).2.1).cz;simp only [AV];omega
def Qc (q:aa) (u:Int) (t:List aa):Option aa:=if (t.all λp=>decide (VN q p))=true/\cW (Jw q (u+AV t))=0 then some (Jw q (u+AV t)) else none
theorem F9 (q:aa) (l:List aa):ux (q::l)=Qc q 0 (q::l):=by
 unfold ux Qc;rw [Int.zero_add];rfl
theorem B3 {q r:aa} {u:Int} {t:List aa} (h:VN q r):Qc q u (r::t)=Qc q (u+r.cz) t:=by
 unfold Qc;have e:u+AV (r::t)=u+r.cz+AV t:=by simp only [AV];omega
 rw [e,zei,zct h,zcg]
theorem Ez {q r:aa} {u:Int} {t:List aa} (h:¬ VN q r):Qc q u (r::t)=none:=by
 unfold Qc;rw [zei,zcf h,zcv,zab (by simp)]
theorem Ll {q:aa} {u:Int} {t:List aa} (h0:0<=u) (h:cW (Jw q u)≠0):Qc q u t=none:=by
 unfold Qc;rw [zab];rintro ⟨h1,h2⟩;have hp:=Lk (q:=q) (t:=t) (λp hp=>by have:=zaz.1 h1 p hp;simpa using this);exact h (Lj h2 h0 (by omega))
theorem Qd (p q:aa):dO (bE.bJ (⟨⟨p.source,p.call⟩,p.kind,p.a,p.b,p.cF,p.bT⟩:bE)) (bE.bJ (⟨⟨q.source,q.call⟩,q.kind,q.a,q.b,q.cF,q.bT⟩:bE))=decide (Comm p q):=by
 rw [zbo,zbr];simp [bE.bJ,dO,Mm,Comm]
theorem Uy (l:List aa) (hs:∀ r,r∈l->Sm r) (hl:l.length<=1000):kb l=some (zN (ux l)):=by
 cases l with
 | nil=>rfl
 | cons q l =>
  rw [F9];unfold kb;have hq:=hs q (zah ..);have e0:nth (q::l) (Int.toNat 0)=q:=rfl;rw [zab (by simp;omega),af (by simp),e0];simp only [mR,zac];refine bj (q::l) (λs:Int×Int=>s.1) (λs t=>some (zN (Qc q s.2 t))) (λs t=>0<=s.2/\s.2<=1099511627776/\∀ r,r∈t->Sm r) (by omega) ?_ ?_ rfl ⟨by decide,by decide,hs⟩
  ·rintro ⟨i,u⟩ ⟨h0,h1,h2⟩ hi;simp only at h0 h1 hi ⊢;unfold ka ij;rw [zab (by simp only [zaj];omega)];change ∃ r,Option.map _ ((dJ (Jw q u)).bind _)=_/\_;rw [zl _ (VM hq u)];simp only [zac,Qc,List.all_nil,AV,true_and,Int.add_zero];by_cases he:cW (Jw q u)=0
   ·rw [zab (by simp [he]),zaa he];exact ⟨_,rfl,rfl⟩
   ·rw [zaa (by simpa using he),zab he];exact ⟨_,rfl,rfl⟩
  ·rintro ⟨i,u⟩ r t ⟨h0,h1,h2⟩ jJ gC hn hlen;simp only at h0 h1 jJ gC hn hlen ⊢;unfold ka;have hr:=h2 r (zah ..);rw [zaa (by simpa using gC),af ⟨jJ,gC⟩,hn,zl r hr,e0];simp only [ig,dh,dR,zac];by_cases hk:r.part≠0/\cW r=0
   ·have b1:(r.part==0)=false:=by simpa using hk.1
    have b2:(cW r != 0)=false:=by simp [hk.2]
    simp only [b1,b2,zcb,zdl,zbt,zcw];rw [af (by simp),Qd];by_cases hc:Comm r q
    ·rw [af (by omega)];have gu:=(mJ hk.2).cz;have tO:VN q r:=⟨hk.1,hk.2,hc⟩;by_cases hu:r.cz > 1099511627776-u
     ·rw [zaa (by simp [hc];omega)];refine .inl ⟨_,rfl,?_⟩;rw [B3 tO,Ll (by omega)]
      ·rfl
      ·intro he;have:=(mJ he).cz;simp only [Jw] at this;omega
     ·rw [zab (by simp [hc];omega),af (by omega),af (by omega)];refine .inr ⟨_,rfl,⟨by simp only;omega,by simp only;omega,λp hp=>h2 p (zag _ hp)⟩,rfl,?_⟩
      rw [B3 tO]
    ·rw [af (by simp [hc]),zaa (by simp [hc])];refine .inl ⟨_,rfl,?_⟩;rw [Ez (λh=>hc h.2.2)];rfl
   ·have hb:((r.part==0) || ((if (!(r.part==0))=true then cW r else default) != 0))=true:=by
     by_cases hp:r.part=0
     ·simp [hp]
     ·simp [hp];intro he;exact hk ⟨hp,he⟩
    simp only [hb,zbu,zdv,zay,zbs];rw [af (by simp),af (by simp),zaa trivial];refine .inl ⟨_,rfl,?_⟩;rw [Ez (λh=>hk ⟨h.1,h.2.1⟩)];rfl
theorem Sq (l:List aa) (hs:∀ r,r∈l->Sm r) (hl:l.length<=1000):pN l=some (zN (ux l)):=by
 cases l with
 | nil =>
  unfold pN;refine bj ([]:List aa) (λs:Int×Int×Int×Int×List UInt8×List UInt8×Int×Int×Int×Bool=>s.1) (λs t=>some (zN (ux []))) (λs t=>s=(0,0,0,0,([]:List UInt8),([]:List UInt8),0,0,0,false)/\t=[]) (by simp) ?_ ?_ rfl ⟨rfl,rfl⟩
  ·rintro s ⟨h,_⟩ hi;rw [h];exact ⟨_,rfl,rfl⟩
  ·rintro s a t ⟨_,h⟩;cases h
 | cons q l =>
  rw [F9];unfold pN;have hq:=hs q (zah ..);have e0:nth (q::l) (Int.toNat 0)=q:=rfl;have hpos:(0:Int)<((q::l).length:Int):=by simp only [zai];omega
  refine bj (q::l) (λs:Int×Int×Int×Int×List UInt8×List UInt8×Int×Int×Int×Bool=>s.1) (λs t=>some (zN (Qc q s.2.2.2.2.2.2.2.1 t)))
   (λs t=>(0<=s.2.2.2.2.2.2.2.1/\s.2.2.2.2.2.2.2.1<=1099511627776)/\(∀ r,r∈t->Sm r)/\(s.1=0∨(cW (Jw q s.2.2.2.2.2.2.2.1)=0/\s=(s.1,q.source,q.az,q.kind,q.a,q.b,q.start,s.2.2.2.2.2.2.2.1,q.cF,q.bT)))) (by omega) ?_ ?_ rfl ⟨by decide,hs,.inl rfl⟩
  ·rintro ⟨i,c0,c1,c2,c3,c4,c5,u,c10,c11⟩ ⟨h0,h1,h2⟩ hi;simp only at h0 h1 h2 hi ⊢;rcases h2 with h2|⟨h2,h3⟩
   ·omega
   ·injection h3 with _ h3;injection h3 with e0 h3;injection h3 with e1 h3;injection h3 with e2 h3;injection h3 with e3 h3;injection h3 with e4 h3;injection h3 with e5 h3;injection h3 with _ h3;injection h3 with e10 e11;subst e0 e1 e2 e3 e4 e5 e10 e11;unfold qq nF;rw [zab (by simp only [zaj];omega),zct hpos];refine ⟨_,rfl,?_⟩;simp only [Qc,List.all_nil,AV,true_and,Int.add_zero];rw [zaa h2];rfl
  ·rintro ⟨i,c0,c1,c2,c3,c4,c5,u,c10,c11⟩ r t ⟨h0,h1,h2⟩ jJ gC hn hlen;simp only at h0 h1 h2 jJ gC hn hlen ⊢;clear h2;unfold qq;have hr:=h1 r (zah ..);rw [zaa (by simpa using gC),af ⟨jJ,gC⟩,hn,yH r hr,e0];simp only [rh,dR,zac];by_cases hk:r.part≠0/\cW r=0
   ·have b1:(r.part==0)=false:=by simpa using hk.1
    have gu:=(mJ hk.2).cz;rw [zab (by simp [b1,hk.2]),af (by omega),af ⟨zft _,hpos⟩];by_cases hc:Comm r q
    ·have tO:VN q r:=⟨hk.1,hk.2,hc⟩;rw [zab (by
      obtain ⟨a1,a2,a3,a4,a5,a6,a7⟩:=hc;simp [a1,a2,a3,a4,a5,a6,a7])]
     change (∃ r_1,((il (Jw q (u+r.cz))).bind _)=_/\_)∨∃ s',((il (Jw q (u+r.cz))).bind _)=_/\_;rw [yH _ (VM hq _)];simp only [zac];by_cases he:cW (Jw q (u+r.cz))=0
     ·have ge:=(mJ he).cz;simp only [Jw] at ge;rw [zab (by simp [he]),af (by omega)];refine .inr ⟨_,rfl,⟨by simp only;omega,λp hp=>h1 p (zag _ hp),.inr ⟨he,rfl⟩⟩,rfl,?_⟩
      rw [B3 tO]
     ·rw [zaa (by simpa using he)];refine .inl ⟨_,rfl,?_⟩;rw [B3 tO,Ll (by omega) he];rfl
    ·rw [zaa (by
      unfold Comm at hc;simp only [zbx,zdk,Bool.and_eq_false_iff,bne_iff_ne,zes];by_cases a1:r.source=q.source
      ·by_cases a2:r.call=q.call
       ·by_cases a3:r.kind=q.kind
        ·by_cases a4:r.a=q.a
         ·by_cases a5:r.b=q.b
          ·by_cases a6:r.cF=q.cF
           ·by_cases a7:r.bT=q.bT
            ·exact absurd ⟨a1,a2,a3,a4,a5,a6,a7⟩ hc
            ·exact .inr a7
           ·exact .inl (.inr a6)
          ·exact .inl (.inl (.inr a5))
         ·exact .inl (.inl (.inl (.inr a4)))
        ·exact .inl (.inl (.inl (.inl (.inr a3))))
       ·exact .inl (.inl (.inl (.inl (.inl (.inr a2)))))
      ·exact .inl (.inl (.inl (.inl (.inl (.inl a1))))))]
     refine .inl ⟨_,rfl,?_⟩;rw [Ez (λh=>hc h.2.2)];rfl
   ·rw [zaa (by
     by_cases hp:r.part=0
     ·simp [hp]
     ·simp [hp];intro he;exact hk ⟨hp,he⟩)]
    refine .inl ⟨_,rfl,?_⟩;rw [Ez (λh=>hk ⟨h.1,h.2.1⟩)];rfl
theorem Oz (b:Bool) (o:Option aa):(if b=true then zN o else X9)=zN (if b=true then o else none):=by split <;> rfl
theorem Ga (l:List aa) (hs:∀ r,r∈l->Sm r) (hl:l.length<=1000):ik l=some (zN (jG l)):=by
 unfold ik jG;rw [←Oz];refine bj l (λs:Int=>s) (λs t=>some (if Jx (s+1) t=true then zN (ux l) else X9)) (λs t=>True) (by omega) ?_ ?_ rfl trivial
 ·intro i _ hi;unfold iz fN;rw [zab (by simp only [zaj];omega),Uy l hs hl];exact ⟨_,rfl,rfl⟩
 ·intro i r t _ jJ gC hn hlen;unfold iz;rw [zaa (by simpa using gC),af ⟨jJ,gC⟩,hn,af (by omega),af (λ_=>by omega)];have el:(i==(l.length:Int) - 1)=t.isEmpty:=by
   rw [zbo];cases t with
   | nil=>simp at hlen ⊢;omega
   | cons=>simp at hlen ⊢;omega
  rw [el];simp only [Jx];by_cases hp:r.part=i+1
  ·by_cases Hf:r.last=t.isEmpty
   ·rw [zab (by simp [hp,Hf]),af (by omega)];refine .inr ⟨_,rfl,trivial,rfl,?_⟩;simp [hp,Hf]
   ·rw [zaa (by simp [hp,Hf])];refine .inl ⟨_,rfl,?_⟩;simp [hp,Hf];rfl
  ·rw [zaa (by simp [hp])];refine .inl ⟨_,rfl,?_⟩;simp [hp];rfl
theorem Lm (l:List aa) (hs:∀ r,r∈l->Sm r) (hl:l.length<=1000):nG l=some (zN (jG l)):=by
 unfold nG jG;rw [←Oz];refine bj l (λs:Int=>s) (λs t=>some (if Jx (s+1) t=true then zN (ux l) else X9)) (λs t=>True) (by omega) ?_ ?_ rfl trivial
 ·intro i _ hi;unfold mV ki;rw [zab (by simp only [zaj];omega),Sq l hs hl];exact ⟨_,rfl,rfl⟩
 ·intro i r t _ jJ gC hn hlen;unfold mV;rw [zaa (by simpa using gC),af ⟨jJ,gC⟩,hn,af (by omega),af (λ_=>⟨jJ,gC⟩),af (λ_=>by omega)];have el:((i+1)==(l.length:Int))=t.isEmpty:=by
   rw [zbo];cases t with
   | nil=>simp at hlen ⊢;omega
   | cons=>simp at hlen ⊢;omega
  rw [el];simp only [Jx];by_cases hp:r.part=i+1
  ·by_cases Hf:r.last=t.isEmpty
   ·rw [zab (by simp [hp,Hf]),af (by omega)];refine .inr ⟨_,rfl,trivial,rfl,?_⟩;simp [hp,Hf]
   ·rw [zaa (by simp [hp,Hf])];refine .inl ⟨_,rfl,?_⟩;simp [hp,Hf];rfl
  ·rw [zaa (by simp [hp])];refine .inl ⟨_,rfl,?_⟩;simp [hp];rfl
theorem Sr (l:List aa) (x:aa) (last:Bool) (hl:l.length<=1000):qp l x last=some (nX last x 1 0 l):=by
 unfold qp;refine bj l (λs:List Int×Int=>s.2) (λs t=>some (s.1++nX last x ((s.1.length:Int)+1) s.2 t)) (λs t=>(s.1.length:Int)<=s.2) (by omega) ?_ ?_ rfl (by simp)
 ·rintro ⟨out,i⟩ h hi;simp only at h hi ⊢;unfold pB;rw [zab (by simp only [zaj];omega)];exact ⟨_,rfl,by simp [nX]⟩
 ·rintro ⟨out,i⟩ r t h jJ gC hn hlen;simp only at h jJ gC hn hlen ⊢;unfold pB;rw [zaa (by simpa using gC),af ⟨jJ,gC⟩,hn];simp only [rh,zac];rw [af (λ_=>⟨jJ,gC⟩),af (λ_=>by omega)];have ec:((r.source==x.source) && (r.call==x.call))=bZ r x:=by rw [zbo,pS];simp
  rw [ec,show nX last x ((out.length:Int)+1) i (r::t)=(if bZ r x=true/\r.part=(out.length:Int)+1 then (if last=true/\r.last=true then [i] else i::nX last x ((out.length:Int)+1+1) (i+1) t) else nX last x ((out.length:Int)+1) (i+1) t) from rfl];by_cases hc:bZ r x=true/\r.part=(out.length:Int)+1
  ·rw [zaa (by simp [hc.1,hc.2]),af (by simp only [zai,zbh];omega),af (λ_=>⟨jJ,gC⟩),zaa hc];by_cases Hf:last=true/\r.last=true
   ·rw [zaa (by simp [Hf.1,Hf.2]),zaa Hf];exact .inl ⟨_,rfl,rfl⟩
   ·rw [zab (by simpa using Hf),zab Hf,af (by omega)];refine .inr ⟨_,rfl,by simp only [zak,zai,zbh];omega,rfl,?_⟩;simp
  ·rw [zab (by simpa using hc),zab hc,af (by omega)];exact .inr ⟨_,rfl,by simp only;omega,rfl,rfl⟩
theorem Uz (l:List aa) (at':List Int) (hl:l.length<=1000) (ha:at'.length<=1000):tV l at'=some (oD 0 at' l):=by
 unfold tV;refine (bj l (λs:List aa×List aa×Int×Int=>s.2.2.2) (λs t=>some (s.1++(oD s.2.2.2 (at'.drop s.2.2.1.toNat) t).1,s.2.1++(oD s.2.2.2 (at'.drop s.2.2.1.toNat) t).2))
  (λs t=>(0<=s.2.2.1/\s.2.2.1<=(at'.length:Int))/\(s.1.length:Int)<=s.2.2.2/\(s.2.1.length:Int)<=s.2.2.2) (by omega) ?_ ?_ rfl (by simp)).trans (by simp)
 ·rintro ⟨out,rest,k,i⟩ ⟨h0,h1⟩ hi;simp only at h0 h1 hi ⊢;unfold rL;rw [zab (by simp only [zaj];omega)];exact ⟨_,rfl,by cases at'.drop k.toNat <;> simp [oD]⟩
 ·rintro ⟨out,rest,k,i⟩ r t ⟨h0,h1,h2⟩ jJ gC hn hlen;simp only at h0 h1 h2 jJ gC hn hlen ⊢;unfold rL;rw [zaa (by simpa using gC),af (λh=>by simp at h;omega),af ⟨jJ,gC⟩,hn];by_cases hk:k<(at'.length:Int)
  ·have hd:=p7 (l:=at') (k:=k.toNat) (by omega);rw [hd];by_cases he:nth at' k.toNat=i
   ·rw [zaa (by simp [he,hk]),af (by simp only [zai,zbh];omega),af (by omega),af (by omega)];refine .inr ⟨_,rfl,⟨by simp only;omega,by simp only [zak,zai,zbh];omega,by simp only;omega⟩,rfl,?_⟩;simp only
    conv=>rhs;unfold oD
    rw [zaa he,show (k+1).toNat=k.toNat+1 from by omega];simp
   ·rw [zab (by simp [he]),af ⟨jJ,gC⟩,af (by simp only [zai,zbh];omega),af (by omega)];refine .inr ⟨_,rfl,⟨by simp only;omega,by simp only;omega,by simp only [zak,zai,zbh];omega⟩,rfl,?_⟩;simp only;rw [hd]
    conv=>rhs;unfold oD
    rw [zab he];simp
  ·rw [zab (by simp [hk]),af ⟨jJ,gC⟩,af (by simp only [zai,zbh];omega),af (by omega)];refine .inr ⟨_,rfl,⟨by simp only;omega,by simp only;omega,by simp only [zak,zai,zbh];omega⟩,rfl,?_⟩;simp only;rw [zds (by omega),rC,rC];simp
theorem B4 (last:Bool) (x:aa):∀ (n i:Int) (l:List aa),(nX last x n i l).length<=l.length
 | _,_,[]=>zar _
 | n,i,r::l=>by
  have h1:=B4 last x (n+1) (i+1) l;have h2:=B4 last x n (i+1) l;unfold nX;split
  ·split <;> simp only [zai,zbh] <;> omega
  ·simp only [zai];omega
theorem Ss {last:Bool} {x:aa} {n:Int} {l:List aa} (h:∀ r,r∈l->Sm r):(∀ r,r∈(kG last x n l).1->Sm r)/\(∀ r,r∈(kG last x n l).2->Sm r):=by
 have hp:=yG last x n l;exact ⟨λr hr=>h r (hp.mem_iff.1 (zbb.2 (.inl hr))),λr hr=>h r (hp.mem_iff.1 (zbb.2 (.inr hr)))⟩
theorem jO {α:Type} [Inhabited α] {l:List α} {k:Nat} (h:k<l.length):nth l k∈l:=by rw [l8 h];exact zfg h
theorem eU {α:Type} [Inhabited α] {a:α} {t:List α} {j:Nat}:nth (a::t) (j+1)=nth t j:=by simp [nth]
theorem fp {α:Type} [Inhabited α] {a:α} {t:List α}:nth (a::t) 0=a:=by simp [nth]
theorem Qe (a b:aa):qo a b=some (decide (Lt a b)):=by
 unfold qo;by_cases h1:a.source=b.source
 ·rw [zab (by simp [h1])];by_cases h2:a.call=b.call
  ·rw [zab (by simp [h2])];congr 1;rw [zbo,zbr,zbr];unfold Lt;omega
  ·rw [zaa (by simpa using h2)];congr 1;rw [zbo,zbr,zbr];unfold Lt;omega
 ·rw [zaa (by simpa using h1)];congr 1;rw [zbo,zbr,zbr];unfold Lt;omega
def Qf (l:List aa) (t:List aa):Bool:=t.all λx=>(jG (kG true x 1 l).1).isNone
def okB (r:aa):Bool:=decide (r.part≠0) && decide (cW r=0)
def wi:Option aa->List aa->Bool
 | _,[]=>true
 | none,r::t=>okB r && wi (some r) t
 | some y,r::t=>okB r && !decide (Lt r y) && wi (some r) t
theorem Gb:∀ (o:Option aa) (t:List aa),wi o t=true↔P8 (o.toList++t)/\∀ r,r∈t->cW r=0/\r.part≠0
 | o,[]=>by cases o <;> simp [wi,P8]
 | none,r::t=>by
  have ih:=Gb (some r) t;simp only [wi,okB,zaq,zaj,ih,zfk,zex,zcc,zbv,zan,forall_eq_or_imp];constructor
  ·intro h;exact ⟨h.2.1,⟨h.1.2,h.1.1⟩,h.2.2⟩
  ·intro h;exact ⟨⟨h.2.1.2,h.2.1.1⟩,h.1,h.2.2⟩
 | some y,r::t=>by
  have ih:=Gb (some r) t;simp only [wi,okB,zaq,zaj,ih,zex,zbv,zan,forall_eq_or_imp,zdk,zcy];constructor
  ·rintro ⟨⟨⟨h1,h2⟩,h3⟩,h4,h5⟩;refine ⟨zax.2 ⟨λz hz=>?_,h4⟩,⟨h2,h1⟩,h5⟩;rcases zan.1 hz with e|hz
   ·rw [e];exact h3
   ·exact Lc h3 ((zax.1 h4).1 z hz)
  ·rintro ⟨h1,h2,h3⟩;have h4:=zax.1 h1;exact ⟨⟨⟨h2.2,h2.1⟩,h4.1 r (zah ..)⟩,h4.2,h3⟩
theorem EA (l:List aa):(wi none l && Qf l l)=true↔Sj l:=by
 rw [zaq,Gb];simp only [zfk,zcc,Qf,zaz,Option.isNone_iff_eq_none];constructor
 ·rintro ⟨⟨h1,h2⟩,h3⟩;refine ⟨h1,h2,λx=>?_⟩;by_cases hx:∃ r,r∈l/\bZ r x=true
  ·obtain ⟨r,hr,hc⟩:=hx;rw [Ex true (nV hc)];exact h3 r hr
  ·rw [B0 true (λr hr hc=>hx ⟨r,hr,hc.1⟩)];rfl
 ·rintro ⟨h1,h2,h3⟩;exact ⟨⟨h1,h2⟩,λx _=>h3 x⟩
theorem Su (l:List aa) (hs:∀ r,r∈l->Sm r) (hl:l.length<=1000):mF l=some (Qf l l):=by
 unfold mF;refine bj l (λs:Int=>s) (λs t=>some (Qf l t)) (λs t=>True) (by omega) ?_ ?_ rfl trivial
 ·intro i _ hi;unfold rM;rw [zab (by simp only [zaj];omega)];exact ⟨_,rfl,rfl⟩
 ·intro i r t _ jJ gC hn hlen;unfold rM;rw [zaa (by simpa using gC),af ⟨jJ,gC⟩,hn,Sr l r true hl];have hp:=B4 true r 1 0 l;simp only [zac];rw [Uz l _ hl (by omega),xe];simp only [zac];have hc:=zk (last:=true) (x:=r) (n:=1) (l:=l);rw [Lm _ (Ss hs).1 (by omega)];simp only [zac,Qf,zei];cases A2:jG (kG true r 1 l).1 with
  | none =>
   rw [zab (by simp [zN,X9]),af (by omega)];exact .inr ⟨_,rfl,trivial,rfl,by simp⟩
  | some w =>
   rw [zaa (show (zN (some w)).2=true from rfl)];exact .inl ⟨_,rfl,by simp⟩
theorem UA (l:List aa) (hs:∀ r,r∈l->Sm r) (hl:l.length<=1000):tW l=some (wi none l && Qf l l):=by
 unfold tW;have:=bj l (λs:Int=>s) (λs t=>some (wi (if s=0 then none else some (nth l (s-1).toNat)) t && Qf l l)) (λs t=>∀ r,r∈t->Sm r) (by omega) (step:=λs=>kC l s) (s:=0) ?_ ?_ rfl hs
 ·exact this
 ·intro i _ hi;unfold kC;rw [zab (by simp only [zaj];omega),Su l hs hl];exact ⟨_,rfl,by simp [wi]⟩
 ·intro i r t QG jJ gC hn hlen;unfold kC;rw [zaa (by simpa using gC),af ⟨jJ,gC⟩,af (λ_=>⟨jJ,gC⟩),hn,yH r (QG r (zah ..))];simp only [dR,zac];have e1:(i+1=0)=False:=by simp;omega
  have e2:(i+1-1).toNat=i.toNat:=by omega
  by_cases hk:r.part≠0/\cW r=0
  ·have b1:(r.part==0)=false:=by simpa using hk.1
   simp only [b1,hk.2,zcb,zbt,zcw,zek,zcg];by_cases h0:i=0
   ·rw [af (by simp [h0]),af (by simp [h0]),af (by simp [h0])];simp only [h0,Int.lt_irrefl,zfj,bH,zab,zay,zbs,zac,zcv,gt_iff_lt];rw [af (by omega)];refine .inr ⟨_,rfl,λp hp=>QG p (zag _ hp),rfl,?_⟩;have Wl:nth l 0=r:=by rw [←hn,h0];rfl
    simp [wi,okB,hk.1,hk.2,Wl]
   ·have hp:i > 0:=by omega
    rw [af (λ_=>⟨jJ,gC⟩),af (λ_=>by omega),af (λ_=>by omega)];simp only [hp,zgj,Qe,dR,zac,zbt,zcg];rw [zab h0];generalize nth l (i-1).toNat=y;by_cases hb:Lt r y
    ·rw [zaa (by simpa using hb)];exact .inl ⟨_,rfl,by simp [wi,hb]⟩
    ·rw [zab (by simpa using hb),af (by omega)];refine .inr ⟨_,rfl,λp hp=>QG p (zag _ hp),rfl,?_⟩;simp only [e1,zbs,e2,hn];simp [wi,okB,hk.1,hk.2,hb]
  ·have hb:((r.part==0) || ((if (!(r.part==0))=true then cW r else default) != 0))=true:=by
    by_cases hp:r.part=0
    ·simp [hp]
    ·simp [hp];intro he;exact hk ⟨hp,he⟩
   simp only [hb,zbu,zdv,zcv,bH,zay,zbs,zac];rw [af (by simp),af (by simp),af (by simp),zaa trivial];refine .inl ⟨_,rfl,?_⟩;have:okB r=false:=by
    unfold okB;rw [zez];simpa using hk
   by_cases h0:i=0 <;> simp [h0,wi,this]
theorem p_cmp (x y:Int):fZ x y=some (if x<y then -1 else if y<x then 1 else 0):=by
 unfold fZ mo;simp only [zac,zek,zay,zbs,zaj,gt_iff_lt];split
 ·rfl
 ·split <;> rfl
theorem p_or (l:List Int) (hl:l.length<=1000):qg l=some ((l.find? (λx=>x != 0)).getD 0):=by
 unfold qg;refine bj l (λs:Int=>s) (λs t=>some ((t.find? (λx=>x != 0)).getD 0)) (λs t=>True) (by omega) ?_ ?_ rfl trivial
 ·intro i _ hi;unfold pr;rw [zab (by simp only [zaj];omega)];exact ⟨_,rfl,rfl⟩
 ·intro i r t _ jJ gC hn hlen;unfold pr;rw [zaa (by simpa using gC),af ⟨jJ,gC⟩,hn];by_cases h:r=0
  ·rw [zab (by simp [h]),af (by omega)];refine .inr ⟨_,rfl,trivial,rfl,?_⟩;rw [List.find?_cons_of_neg (by simp [h])]
  ·rw [zaa (by simpa using h)];refine .inl ⟨_,rfl,?_⟩;rw [List.find?_cons_of_pos (by simpa using h)];rfl
theorem Sv (a b:aa):∃ c,jq a b=some c/\(c<=0↔¬ Lt b a):=by
 unfold jq;simp only [p_cmp,zac];rw [p_or _ (by simp)];refine ⟨_,rfl,?_⟩;unfold Lt;by_cases h1:a.source<b.source
 ·simp [h1] <;> omega
 ·by_cases h2:b.source<a.source
  ·simp [h1,h2]
  ·by_cases h3:a.call<b.call
   ·simp [h1,h2,h3] <;> omega
   ·by_cases h4:b.call<a.call
    ·simp [h1,h2,h3,h4] <;> omega
    ·by_cases h5:a.part<b.part
     ·simp [h1,h2,h3,h4,h5] <;> omega
     ·by_cases h6:b.part<a.part
      ·simp [h1,h2,h3,h4,h5,h6] <;> omega
      ·simp [h1,h2,h3,h4,h5,h6] <;> omega
def A8 (x:aa):aV:=⟨x.source,x.call⟩
theorem H0 (r x:aa):dO (aV.bJ ⟨r.source,r.call⟩) (aV.bJ (A8 x))=bZ r x:=by
 rw [zbo,pS];simp [aV.bJ,A8,dO,Mm]
def uJ (x:aa):Int->List aa->Int
 | _,[]=>-1
 | i,r::t=>if bZ r x=true then i else uJ x (i+1) t
def runN (x:aa):List aa->Nat
 | []=>0
 | r::t=>if bZ r x=true then runN x t+1 else 0
theorem Sw (l:List aa) (x:aa) (hl:l.length<=1000):mq (A8 x) l=some (uJ x 0 l):=by
 unfold mq;refine bj l (λs:Int=>s) (λs t=>some (uJ x s t)) (λs t=>True) (by omega) ?_ ?_ rfl trivial
 ·intro i _ hi;unfold mc;rw [zab (by simp only [zaj];omega)];exact ⟨_,rfl,rfl⟩
 ·intro i r t _ jJ gC hn hlen;unfold mc;rw [zaa (by simpa using gC),af ⟨jJ,gC⟩,af (by omega),hn];simp only [mb,dh,zac,H0];by_cases h:bZ r x=true
  ·rw [zaa h];exact .inl ⟨_,rfl,by simp [uJ,h]⟩
  ·rw [zab h,af (by omega)];exact .inr ⟨_,rfl,trivial,rfl,by simp [uJ,h]⟩
theorem OA:∀ (x:aa) (i:Int) (t:List aa),uJ x i t=-1∨(i<=uJ x i t/\uJ x i t<i+t.length)
 | x,i,[]=>.inl rfl
 | x,i,r::t=>by
  unfold uJ;have:=OA x (i+1) t;simp only [zai];split <;> omega
theorem UB (l:List aa) (x:aa) (hl:l.length<=1000):lq (A8 x) l=some (if uJ x 0 l<0 then (0,0) else (uJ x 0 l,uJ x 0 l+runN x (l.drop (uJ x 0 l).toNat))):=by
 unfold lq;rw [Sw l x hl];have hi:=OA x 0 l;simp only [zac,zaj];split
 ·rfl
 ·refine Li l (λs:Int=>s) (λs t=>some (uJ x 0 l,s+(runN x t:Int))) (λs t=>True) (by omega) ?_ ?_ (s:=uJ x 0 l) (by omega) trivial
  ·intro i _ hi;unfold kQ;rw [af (λh=>by simp at h;omega),af (λh=>by simp at h;omega)];simp only [bH,hi,Int.lt_irrefl,zfj,zay,zbs,zac,zcv];exact ⟨_,rfl,by simp [runN,hi]⟩
  ·intro i r t _ jJ gC hn hlen;unfold kQ;rw [af (λ_=>⟨jJ,gC⟩),af (λ_=>by omega),hn];simp only [bH,gC,zgj,zbt,dh,zac,zcg,H0];by_cases h:bZ r x=true
   ·rw [zaa h,af (by omega)];refine .inr ⟨_,rfl,trivial,rfl,?_⟩;simp only [runN,h,zbt];congr 2;omega
   ·rw [zab h];refine .inl ⟨_,rfl,?_⟩;simp [runN,h]
def fI (k:Int):Int->List aa->Option Int
 | _,[]=>none
 | i,r::t=>if r.part=k then some i else fI k (i+1) t
theorem JB {k:Int}:∀ {i:Int} {l:List aa} {j:Int},fI k i l=some j->i<=j/\j<i+l.length/\(nth l (j-i).toNat).part=k
 | i,[],j,h=>by cases h
 | i,r::l,j,h=>by
  unfold fI at h;simp only [zai];split at h
  ·rename_i hk;cases h;refine ⟨by omega,by omega,?_⟩;rw [show (i-i).toNat=0 from by omega,fp];exact hk
  ·have ih:=JB h;refine ⟨by omega,by omega,?_⟩;rw [show (j-i).toNat=(j-(i+1)).toNat+1 from by omega,eU];exact ih.2.2
theorem DN (last:Bool) (x:aa) (n:Int):∀ {i:Int} {l:List aa},P8 l->(∀ r,r∈l->bZ r x=true)->nX last x n i l=match fI n i l with
  | none=>[]
  | some j=>j::if last=true/\(nth l (j-i).toNat).last=true then [] else nX last x (n+1) i l
 | i,[],_,_=>rfl
 | i,r::l,h,hc=>by
  have h2:=zax.1 h;have hr:=hc r (zah ..);have VO:∀ r,r∈l->bZ r x=true:=λy hy=>hc y (zag _ hy)
  by_cases hp:r.part=n
  ·have e1:fI n i (r::l)=some i:=by unfold fI;rw [zaa hp]
   have e2:nX last x (n+1) i (r::l)=nX last x (n+1) (i+1) l:=by
    conv=>lhs;unfold nX
    rw [zab (by omega)]
   simp only [e1,e2];rw [show (i-i).toNat=0 from by omega,fp]
   conv=>lhs;unfold nX
   rw [zaa ⟨hr,hp⟩];split <;> rfl
  ·have e1:fI n i (r::l)=fI n (i+1) l:=by conv=>lhs;unfold fI;rw [zab hp]
   have e0:nX last x n i (r::l)=nX last x n (i+1) l:=by
    conv=>lhs;unfold nX
    rw [zab (λh=>hp h.2)]
   rw [e0,e1,DN last x n h2.2 VO];cases hf:fI n (i+1) l with
   | none=>rfl
   | some j =>
    have hj:=JB hf;have hm:nth l (j-(i+1)).toNat∈l:=jO (by omega);have e2:nX last x (n+1) i (r::l)=nX last x (n+1) (i+1) l:=by
     conv=>lhs;unfold nX
     rw [zab (λh=>by
      have:=Uv (h2.1 _ hm) (yF hr (nV (VO _ hm)));omega)]
    simp only [e2];rw [show (j-i).toNat=(j-(i+1)).toNat+1 from by omega,eU]
theorem OB (l:List aa) (x:aa) (last:Bool) (hl:l.length<=1000) (hs:P8 l) (hc:∀ r,r∈l->bZ r x=true) (hp:∀ r,r∈l->r.part<=99):ga l last=some (nX last x 1 0 l):=by
 unfold ga;refine bj l (λs:Int×List (Int×Int)=>s.1) (λs t=>some (nX last x 1 0 l)) (λs t=>∀ k,(aC s.2 k).or (fI k s.1 t)=fI k 0 l) (by omega) ?_ ?_ rfl (λk=>by rw [vK];rfl)
 ·rintro ⟨i,m⟩ hm hi;simp only at hm hi ⊢;have uE:∀ k,aC m k=fI k 0 l:=λk=>by rw [←hm k];simp [fI]
  unfold dS e9;rw [zab (by simp only [zaj];omega)];have:loop (λs:List Int×Int=>gJ l last m s.1 s.2) ([],1)=some (nX last x 1 0 l):=by
   refine (qU (λs:List Int×Int=>some (s.1++nX last x s.2 0 l)) (λs=>1<=s.2/\s.2<=100/\(s.1.length:Int)<=s.2-1) (λs=>(100-s.2).toNat) ?_ ⟨by decide,by decide,by decide⟩ (by decide)).trans (by simp);rintro ⟨out,k⟩ ⟨h0,h1,h2⟩;simp only at h0 h1 h2 ⊢;unfold gJ;rw [uE k,DN last x k hs hc];cases hf:fI k 0 l with
   | none =>
    rw [zaa (by simp)];exact .inl ⟨_,rfl,by simp⟩
   | some j =>
    have hj:=JB hf;have hk:=hp _ (jO (l:=l) (k:=(j-0).toNat) (by omega));rw [zab (by simp),af (by simp only [zai,zbh];omega)];simp only [zcq];rw [af (λ_=>by omega),af (λ_=>by omega),show (j-0).toNat=j.toNat from by omega];by_cases Hf:last=true/\(nth l j.toNat).last=true
    ·rw [zaa (by simp [Hf.1,Hf.2]),zaa Hf];exact .inl ⟨_,rfl,rfl⟩
    ·rw [zab (by simpa using Hf),zab Hf,af (by omega)];refine .inr ⟨_,rfl,⟨by simp only;omega,by simp only;omega,by simp only [zak,zai,zbh];omega⟩,by simp only;omega,?_⟩;simp
  rw [this];exact ⟨_,rfl,rfl⟩
 ·rintro ⟨i,m⟩ r t hm jJ gC hn hlen;simp only at hm jJ gC hn hlen ⊢;unfold dS;rw [zaa (by simpa using gC),af ⟨jJ,gC⟩,af (by omega),hn];cases ha:aC m r.part with
  | none =>
   rw [zaa (by simp),af (by omega)];refine .inr ⟨_,rfl,λk=>?_,rfl,by first|rfl|trivial⟩;simp only;rw [dW,←hm k];by_cases hk:r.part=k
   ·rw [zaa (by simp [hk])];subst hk;simp [ha,fI]
   ·rw [zab (by simpa using λh=>hk h.symm)];simp [fI,hk]
  | some j =>
   rw [zab (by simp),af (by omega)];refine .inr ⟨_,rfl,λk=>?_,rfl,by first|rfl|trivial⟩;simp only;rw [←hm k];by_cases hk:r.part=k
   ·subst hk;simp [ha]
   ·simp [fI,hk]
def wj (at':List Int):Int->List aa->List aa
 | _,[]=>[]
 | i,r::t=>if i∈at' then wj at' (i+1) t else r::wj at' (i+1) t
theorem Gc {a b:List Int}:∀ {i:Int} {l:List aa},(∀ j,i<=j->(j∈a↔j∈b))->wj a i l=wj b i l
 | _,[],_=>rfl
 | i,r::l,h=>by
  have ih:=Gc (i:=i+1) (l:=l) (λj hj=>h j (by omega));unfold wj;simp only [h i (zft _),ih]
theorem Ln:∀ (i:Int) (l:List aa),wj [] i l=l
 | _,[]=>rfl
 | i,r::l=>by unfold wj;rw [zab (by simp),Ln]
theorem C6:∀ (i:Int) (at':List Int) (l:List aa),at'.Pairwise (· < ·)->(∀ a,a∈at'->i<=a/\a<i+l.length)->oD i at' l=(at'.map λj=>nth l (j-i).toNat,wj at' i l)
 | i,[],l,_,_=>by rw [rC,Ln];rfl
 | i,a::at',[],_,h=>by have:=h a (zah ..);simp at this;omega
 | i,a::at',r::l,hp,h=>by
  have h2:=zax.1 hp;have ha:=h a (zah ..);unfold oD;by_cases e:a=i
  ·subst e;rw [zaa rfl,C6 (a+1) at' l h2.2 (λb hb=>by
    have h3:=h b (zag _ hb);have h4:=h2.1 b hb;simp only [zai] at h3;omega)]
   have e1:(at'.map λj=>nth (r::l) (j-a).toNat)=at'.map λj=>nth l (j-(a+1)).toNat:=zgh (λb hb=>by
    have h4:=h2.1 b hb;rw [show (b-a).toNat=(b-(a+1)).toNat+1 from by omega,eU])
   have e2:wj (a::at') a (r::l)=wj at' (a+1) l:=by
    conv=>lhs;unfold wj
    rw [zaa (zah ..)];exact Gc (λj hj=>by simp;omega)
   simp only [zap,e1,e2];rw [show (a-a).toNat=0 from by omega,fp]
  ·have l7:∀ b,b∈a::at'->i+1<=b/\b<i+1+l.length:=λb hb=>by
    have h3:=h b hb;simp only [zai] at h3;rcases zan.1 hb with hb|hb
    ·omega
    ·have:=h2.1 b hb;omega
   rw [zab e,C6 (i+1) (a::at') l hp l7];have e1:((a::at').map λj=>nth (r::l) (j-i).toNat)=(a::at').map λj=>nth l (j-(i+1)).toNat:=zgh (λb hb=>by
    have h4:=l7 b hb;rw [show (b-i).toNat=(b-(i+1)).toNat+1 from by omega,eU])
   have e2:wj (a::at') i (r::l)=r::wj (a::at') (i+1) l:=by
    conv=>lhs;unfold wj
    rw [zab (λhb=>by have:=l7 i hb;omega)]
   rw [e1,e2]
theorem OC (l:List aa) (at':List Int) (hl:l.length<=1000) (hal:at'.length<=1000) (hp:at'.Pairwise (· < ·)) (hb:∀ a,a∈at'->0<=a/\a<(l.length:Int)):lv l at'=some (oD 0 at' l):=by
 unfold lv;rw [C6 0 at' l hp (λa ha=>by have:=hb a ha;omega)];refine bj at' (λs:List aa×Int×List (Int×Bool)=>s.2.1) (λs t=>some (at'.map (λj=>nth l (j-0).toNat),wj at' 0 l))
  (λs t=>(s.1.length:Int)<=s.2.1/\s.1++t.map (λj=>nth l (j-0).toNat)=at'.map (λj=>nth l (j-0).toNat)/\(∀ j,((aC s.2.2 j).getD false=true∨j∈t)↔j∈at')/\(∀ a,a∈t->0<=a/\a<(l.length:Int))) (by omega) ?_ ?_ (s:=(([]:List aa),(0:Int),([]:List (Int×Bool)))) rfl ⟨by simp,rfl,λj=>by simp [vK],hb⟩
 ·rintro ⟨out,i,m⟩ ⟨h1,h2,h3,h4⟩ hi;simp only at h1 h2 h3 h4 hi ⊢;have hm:∀ j,(aC m j).getD false=decide (j∈at'):=λj=>by rw [zbo,zbr,←h3 j];simp
  rw [zbf,zbn] at h2;unfold gA iN;rw [zab (by simp only [zaj];omega),←h2];have:loop (λs:List aa×Int=>iM l out m s.1 s.2) ([],0)=some (out,wj at' 0 l):=by
   refine (bj l (λs:List aa×Int=>s.2) (λs t=>some (out,s.1++wj at' s.2 t)) (λs t=>(s.1.length:Int)<=s.2) (by omega) ?_ ?_ rfl (by simp)).trans (by simp)
   ·rintro ⟨oth,k⟩ hq hk;simp only at hq hk ⊢;unfold iM;rw [zab (by simp only [zaj];omega)];exact ⟨_,rfl,by simp [wj]⟩
   ·rintro ⟨oth,k⟩ r t hq RS cU hn hlen;simp only at hq RS cU hn hlen ⊢;unfold iM;rw [zaa (by simpa using cU),af ⟨RS,cU⟩,af (by omega),hn,hm k];by_cases uG:k∈at'
    ·rw [zab (by simpa using uG),af (by omega)];refine .inr ⟨_,rfl,by simp only;omega,rfl,?_⟩;simp [wj,uG]
    ·rw [zaa (by simpa using uG),af (by simp only [zai,zbh];omega),af (by omega)];refine .inr ⟨_,rfl,by simp only [zak,zai,zbh];omega,rfl,?_⟩;simp [wj,uG]
  rw [this];exact ⟨_,rfl,rfl⟩
 ·rintro ⟨out,i,m⟩ a t ⟨h1,h2,h3,h4⟩ jJ gC hn hlen;simp only at h1 h2 h3 h4 jJ gC hn hlen ⊢;have ha:=h4 a (zah ..);unfold gA;rw [zaa (by simpa using gC),af ⟨jJ,gC⟩,hn,af ha,af (by omega),af (by simp only [zai,zbh];omega),af (by omega)];refine .inr ⟨_,rfl,⟨?_,?_,λj=>?_,λb hb=>h4 b (zag _ hb)⟩,rfl,by first|rfl|trivial⟩
  ·simp only [zak,zai,zbh];omega
  ·simp only;rw [←h2,zap,show (a-0).toNat=a.toNat from by omega];simp
  ·simp only;rw [dW,←h3 j];by_cases hj:j=a
   ·rw [zaa (by simp [hj])];simp [hj]
   ·rw [zab (by simpa using hj)];simp [hj]
end Go.Proofs.YtimkfiaffohhkaaGreatDoor
