/- Our own texts of this seat. -/
import Derived.Test.YtimkfiaffohhkaaGreatDoorYF3
import Derived.Lib.ItoaLen
set_option linter.unusedSimpArgs false
set_option linter.unusedVariables false
set_option linter.unusedSectionVars false
set_option maxRecDepth 100000
set_option maxHeartbeats 1000000
namespace Go.Proofs.YtimkfiaffohhkaaGreatDoor
open Go.RowKit Go.Abs Go.Proofs.Tryz
theorem rU {uM:aC} {r:aa} (H:lv uM=some r):aD prog 68 [.agg (aC.row uM)] (·=.agg (aa.row r)):=by
 obtain ⟨i58,ei,fm,e9,qd⟩:=gG;refine aD.bc func68 rfl ntmps68 rfl λS hS=>?_
 unfold lv at H;refine .A 28 [.r 0,.r 1,.d (.agg (aa.row (⟨uM.source,uM.aI,uM.kind,uM.a,uM.b,uM.start,uM.cU,0,0,false,uM.c9,uM.bS⟩:aa)))] rfl (aK.g (bh xC ei fm rfl (by kernel_rfl))) (.R func68 results68 rfl ?_);cases H;exact .m rfl (.ak _)
theorem xT {aL:List aC} {r:Bool} (H:oS aL=some r):aD prog 36 [ai 12 aC.row aL] (·=cB r):=by
 refine aD.bc func36 rfl ntmps36 rfl λS hS=>?_
 unfold oS at H;refine .A 12 [.i (aL.length:Int)] rfl (B5.n rfl rfl) (.lp H (λfF=>[(5,.d (ai 12 aC.row aL)),(6,.d (cI (aL.length:Int))),(7,.d (cI fF))]) (λfF=>⟨[],[]⟩) (.k3 rfl rfl rfl (.nil)) rfl ?_);rintro fF q1 H bu;unfold qg at H;refine .E 5 rfl (.ite H rfl (λH=>?_) (λH=>?_))
 ·obtain ⟨cH,cY,H⟩:=ck2 H;obtain ⟨y1,cQ,H⟩:=ae H;obtain ⟨y2,fD,H⟩:=ae H;refine .A 42 [.d (.ro (aC.row (nth aL fF.toNat))),.r 0,.i (fF+1),.i (if (nth aL fF.toNat).sub<(nth aL fF.toNat).au then (nth aL fF.toNat).sub else (nth aL fF.toNat).au),.i (if (nth aL fF.toNat).sub > (nth aL fF.toNat).au then (nth aL fF.toNat).sub else (nth aL fF.toNat).au),.d (.agg (aa.row y1)),.i y2] rfl ⟨rfl,rfl,λhg=>av (en 32 rfl) rfl rfl (gy (ba fD hg)),rfl,λhg=>av (en 77 rfl) rfl rfl (rU (ba cQ hg)),rfl,rfl,rfl,λhg=>aK.g (Vf rfl rfl),rfl,rfl,rfl,rfl,rfl,rfl,λhg=>aK.g (Ve rfl rfl),rfl,rfl,rfl,rfl,aG rfl rfl cY,B5.ix rfl rfl rfl cH⟩ (.ite H rfl (λH=>?_) (λH=>?_))
  ·refine .E 4 rfl (.R func36 results36 rfl ?_);cases H;cases bu;exact .m rfl (.ak _)
  ·obtain ⟨dW,H⟩:=aq H;refine .A 6 [.i (fF+1)] rfl (aG rfl rfl dW) ?_;cases H;exact .t 0 0 bu rfl rfl rfl rfl rfl hS rfl
 ·refine .E 5 rfl (.R func36 results36 rfl ?_);cases H;cases bu;exact .m rfl (.ak _)
theorem uY {cG:List (List aa)} {r:(List aa)} (H:lx cG=some r):aN prog 69 [.d (ai 1 (TH 12 aa.row) cG)] ⟨[],[]⟩ (QE (.cz 12 (r.map aa.row) 0) ⟨[],[bo r.length]⟩):=by
 obtain ⟨i23,Zg,Zh,Zi,hb23⟩:=Qn;obtain ⟨i58,ei,fm,e9,qd⟩:=gG;refine aN.ll ?_;refine aN.enter func69 rfl ntmps69 rfl λS hS=>?_
 unfold lx at H;refine .A 15 [.i (cG.length:Int)] rfl (SI.n rfl rfl) (.bH (ι:=Int) (λvq=>[(0,.d (ai 1 (TH 12 aa.row) cG)),(3,.d (cI vq))]) (λvq=>⟨[],[]⟩) (λs=>gf cG s=some r) ?_ ?_)
 ·rintro vq H;replace H:gf cG vq=some r:=H;unfold gf at H;obtain ⟨y1,cQ,H⟩:=ae H;refine .F 3 rfl (.fa (en 78 rfl) rfl [] [] (x:=.vc 0 y1.length) (st':=⟨[],[aa.nj y1]⟩) rfl (Dp cQ) ⟨.ak _,.ak _,trivial⟩ rfl rfl rfl rfl rfl rfl (.A 10 [.i (cG.length:Int)] rfl (SI.n rfl rfl) (.lp H (λ⟨bn,sv⟩=>[(6,.vc 0 bn.length),(25,.d (ai 1 (TH 12 aa.row) cG)),(26,.d (cI (cG.length:Int))),(27,.d (cI sv))]) (λ⟨bn,sv⟩=>⟨[],[aa.nj bn]⟩) (.k4 rfl rfl rfl rfl (.nil)) rfl ?_)));rintro ⟨bn,sv⟩ q1 H bu
  dsimp only at H
  unfold nF at H;refine .E 5 rfl (.ite H rfl (λH=>?_) (λH=>?_))
  ·obtain ⟨cH,cY,dW,H⟩:=ck3 H;refine .A 20 [.d (.ro ((TH 12 aa.row) (nth cG sv.toNat))),.t (.vc 0 (bn++(nth cG sv.toNat)).length) 0 (aa.nj (bn++(nth cG sv.toNat))),.i (sv+1)] rfl ⟨aG rfl rfl dW,.e (gq (l:=bn) (l':=nth cG sv.toNat) (row:=aa.row) underlying23 ei fm e9 rfl (by rw [qd];decide) rfl rfl rfl rfl cY) rfl,SI.ix rfl rfl rfl cH⟩ ?_;cases H;exact .z bu rfl rfl
  ·refine .E 6 rfl (.wh (l:=bn) (row:=aa.row) (i:=2) rfl rfl (.R func69 results69 rfl ?_));cases H;cases bu;exact ⟨[],[0],rfl,rfl,rfl,rfl,rfl,rfl,rfl,rfl,.ak _⟩
 ·intro p7 eX;obtain ⟨n2,H⟩:=fq H;refine let z0:=(ai 1 (TH 12 aa.row) cG);.loop (ι:=Nat×(Int×Int)) (λ⟨_,mx,rC⟩=>[(0,.d z0),(3,.d (cI mx)),(9,.d z0),(10,.d (cI (cG.length:Int))),(11,.d (cI rC))]) (λ⟨_,mx,rC⟩=>⟨[],[]⟩) (λp=>iter (λs=>gg cG s.1 s.2) p.1 p.2=some r) (·.1) (n2,(0,0)) H (.k5 rfl rfl rfl rfl rfl (.nil)) rfl ?_
  rintro ⟨m1,mx,rC⟩ HI EW;obtain ⟨n1,q1,tW,H,bu⟩:=ft HI;clear HI;replace H:gg cG mx rC=some q1:=H;unfold gg at H;refine .E 5 rfl (.ite H rfl (λH=>?_) (λH=>?_))
  ·obtain ⟨gC,j5,H⟩:=ck2 H;refine .A 22 [.d (.ro ((TH 12 aa.row) (nth cG rC.toNat))),.i ((nth cG rC.toNat).length:Int),.i (mx+((nth cG rC.toNat).length:Int))] rfl ⟨aG rfl rfl j5,fp.n rfl rfl,SI.ix rfl rfl rfl gC⟩ (.ite H rfl (λH=>?_) (λH=>?_))
   ·cases H
   ·obtain ⟨pb,H⟩:=aq H;refine .A 6 [.i (rC+1)] rfl (aG rfl rfl pb) ?_;cases H;exact .z (EW (n1,(mx+((nth cG rC.toNat).length:Int),rC+1)) bu tW) rfl rfl
  ·refine .E 1 rfl ?_;obtain ⟨q0,H9,lz⟩:=bR H;clear H;cases lz;cases bu;have H:=H9;exact .z (eX mx H) rfl rfl
theorem xU {df:aj} {r:Bool} (H:oT df=some r):aD prog 37 [.agg (aj.row df)] (·=cB r):=by
 obtain ⟨i4,BJ,R7,DN,T3⟩:=Mb;obtain ⟨i23,Zg,Zh,Zi,hb23⟩:=Qn;obtain ⟨i58,ei,fm,e9,qd⟩:=gG;obtain ⟨i114,Zj,Zk,hs114,hb114⟩:=Vw;refine aD.bc func37 rfl ntmps37 rfl λS hS=>?_
 unfold oT at H;obtain ⟨y1,cQ,H⟩:=ae H;refine .B 18 [.r 0,.v (.mp 1) ⟨[aj.o30 df,mo5 ([]:List (bm×Bool))],[]⟩,.d (ai 1 (TH 12 aa.row) ([df.aS,df.aH.open_]:List (List aa)))] rfl ⟨gA (n:=2) (rows:=([df.aS,df.aH.open_]:List (List aa)).map (TH 12 aa.row)) underlying165 Zg Zi Zh rfl rfl rfl rfl rfl,.e gQ rfl⟩ ?_;refine .fa (en 79 rfl) rfl [] [] (x:=.cz 12 (y1.map aa.row) 0) (st':=⟨[aj.o30 df,mo5 ([]:List (bm×Bool))],[bo y1.length]⟩) rfl (uY cQ) ⟨.ak _,trivial⟩ rfl rfl (by first|rfl|(simp only [zao,zbf,dC,dD,ca];rfl)) rfl rfl (by first|rfl|(simp only [zao,zbf,dC,dD,ca];rfl)) ?_;refine .A 10 [.i (df.usages.length:Int)] rfl (B5.n rfl rfl) (.bH (ι:=List aa) (λcD=>[(1,.ref 0 0),(3,.mp 1),(4,.cz 12 (cD.map aa.row) 0)]) (λcD=>⟨[aj.o30 df,mo5 ([]:List (bm×Bool))],[bo cD.length]⟩) (λs=>jk df s=some r) ?_ ?_)
 ·rintro cD H;replace H:jk df cD=some r:=H;unfold jk at H;refine .A 8 [.i (cD.length:Int)] rfl (fp.n rfl rfl) (.lp H (λ⟨iD,cw⟩=>[(1,.ref 0 0),(3,.mp 1),(31,.cz 12 (cD.map aa.row) 0),(32,.d (cI (cD.length:Int))),(33,.d (cI iD))]) (λ⟨iD,cw⟩=>⟨[aj.o30 df,mo5 cw],[bo cD.length]⟩) (.k5 rfl rfl rfl rfl rfl (.nil)) rfl ?_);rintro ⟨iD,cw⟩ q1 H bu
  dsimp only at H
  unfold qh at H;refine .E 5 rfl (.ite H rfl (λH=>?_) (λH=>?_))
  ·obtain ⟨cH,H⟩:=aq H;obtain ⟨y2,fD,H⟩:=ae H;refine .A 38 [.d (.ro (aa.row (nth cD iD.toNat))),.r 2,.d (.agg (bm.row (⟨(nth cD iD.toNat).source,(nth cD iD.toNat).aI⟩:bm))),.r 3,.b ((aB cw (⟨(nth cD iD.toNat).source,(nth cD iD.toNat).aI⟩:bm)).getD false),.b y2] rfl ⟨rfl,rfl,λhg=>av (en 23 rfl) rfl rfl (zB (ba fD hg)),rfl,rfl,rfl,rfl,rfl,rfl,rfl,aK.g (fu rT (l:=cw) (val:=(λx=>cB x)) (k:=(⟨(nth cD iD.toNat).source,(nth cD iD.toNat).aI⟩:bm)) (a0:=false) underlying111 BJ R7 (show tT (cB false) (cB false) from .ak _) rfl rfl rfl (λ_ _ _ h=>HT (vs:=_) h rfl)),aK.g (bh VK Zj Zk rfl rfl),fp.ix rfl rfl rfl cH⟩ (.ite H rfl (λH=>?_) (λH=>?_))
   ·refine .E 4 rfl (.R func37 results37 rfl ?_);cases H;cases bu;exact .m rfl (.ak _)
   ·obtain ⟨cY,H⟩:=aq H;refine .A 11 [.u ⟨[aj.o30 df,mo5 (da cw (⟨(nth cD iD.toNat).source,(nth cD iD.toNat).aI⟩:bm) true),aa.o58 (nth cD iD.toNat),.row 114 [.d (cI (nth cD iD.toNat).source),.d (cI (nth cD iD.toNat).aI)]],[bo cD.length]⟩,.i (iD+1)] rfl ⟨aG rfl rfl cY,.e (dz rT (l:=cw) (val:=(λx=>cB x)) (k:=(⟨(nth cD iD.toNat).source,(nth cD iD.toNat).aI⟩:bm)) (a:=true) underlying111 rfl rfl rfl (λ_ _ _ h=>HT (vs:=_) h rfl) rfl (.ak _)) rfl⟩ ?_;cases H;exact .t 2 1 bu rfl rfl rfl rfl (lS rfl (aw rfl (aw bd rfl))) hS rfl
  ·refine .E 5 rfl (.R func37 results37 rfl ?_);cases H;cases bu;exact .m rfl (.ak _)
 ·intro p7 eX;obtain ⟨n2,H⟩:=fq H;refine .loop (ι:=Nat×(List aa×Int)) (λ⟨_,my,vr⟩=>[(1,.ref 0 0),(3,.mp 1),(4,.cz 12 (my.map aa.row) 0),(19,.d (ai 12 aC.row df.usages)),(20,.d (cI (df.usages.length:Int))),(21,.d (cI vr))]) (λ⟨_,my,vr⟩=>⟨[aj.o30 df,mo5 ([]:List (bm×Bool))],[bo my.length]⟩) (λp=>iter (λs=>jl df s.1 s.2) p.1 p.2=some r) (·.1) (n2,(y1,0)) H (.k6 rfl rfl rfl rfl rfl rfl (.nil)) rfl ?_
  rintro ⟨m1,my,vr⟩ HI EW;obtain ⟨n1,q1,tW,H,bu⟩:=ft HI;clear HI;replace H:jl df my vr=some q1:=H;unfold jl at H;refine .E 5 rfl (.ite H rfl (λH=>?_) (λH=>?_))
  ·obtain ⟨dW,H⟩:=aq H;obtain ⟨y3,ju,H⟩:=ae H;obtain ⟨gC,j5,H⟩:=ck2 H;refine .A 23 [.d (.ro (aC.row (nth df.usages vr.toNat))),.r 2,.d (.agg (aa.row y3)),.d (ai 12 aa.row ([y3]:List aa)),.a 0 58 12 aa.row (my++([y3]:List aa)),.i (vr+1)] rfl ⟨aG rfl rfl j5,fp.a rfl rfl rfl rfl gC,aT underlying23 ei e9 fm rfl rfl rfl rfl rfl,av (en 77 rfl) rfl rfl (rU ju),B5.ix rfl rfl rfl dW⟩ ?_;cases H;exact .t 2 1 (EW (n1,(my++([y3]:List aa),vr+1)) bu tW) rfl rfl rfl rfl (lS rfl (aw rfl (aw bd rfl))) hS rfl
  ·refine .E 1 rfl ?_;obtain ⟨q0,H9,lz⟩:=bR H;clear H;cases lz;cases bu;have H:=H9;exact .z (eX my H) rfl rfl
theorem xe {nm:aa} {r:Bool} (H:nR nm=some r):aD prog 39 [.agg (aa.row nm)] (·=cB r):=by
 refine aD.bc func39 rfl ntmps39 rfl λS hS=>?_
 unfold nR at H;obtain ⟨y1,cQ,H⟩:=ae H;refine .A 17 [.r 0,.i y1] rfl ⟨rfl,rfl,λhg=>av (en 32 rfl) rfl rfl (gy (ba cQ hg)),rfl⟩ (.R func39 results39 rfl ?_);cases H;exact .m rfl (.ak _)
theorem xf {Jq:ag} {r:Bool} (H:nS Jq=some r):aD prog 42 [.agg (ag.row Jq)] (·=cB r):=by
 refine aD.bc func42 rfl ntmps42 rfl λS hS=>?_
 unfold nS at H;refine .A 17 [.r 0] rfl ⟨rfl,rfl,rfl⟩ (.R func42 results42 rfl ?_);cases H;exact .m rfl (.ak _)
theorem Bf {b8:List aa} {r:Int} (H:r9 b8=some r):aN prog 71 [.d (ai 12 aa.row b8),.d (.ex (.func (.func 39) #[] #[]))] ⟨[],[]⟩ (QE (.d (cI r)) ⟨[],[]⟩):=by
 refine aN.ll ?_;refine aN.enter func71 rfl ntmps71 rfl λS hS=>?_
 unfold r9 at H;refine .A 12 [.i (b8.length:Int)] rfl (fp.n rfl rfl) (.lp H (λaZ=>[(0,.d (ai 12 aa.row b8)),(1,.d (.ex (.func (.func 39) #[] #[]))),(7,.d (cI (b8.length:Int))),(8,.d (cI aZ))]) (λaZ=>⟨[],[]⟩) (.k4 rfl rfl rfl rfl (.nil)) rfl ?_);rintro aZ q1 H bu;unfold tj at H;refine .E 5 rfl (.ite H rfl (λH=>?_) (λH=>?_))
 ·obtain ⟨cH,H⟩:=aq H;obtain ⟨y1,cQ,H⟩:=ae H;refine .A 17 [.d (.ro (aa.row (nth b8 aZ.toNat))),.b y1] rfl ⟨sD (en 80 rfl) rfl rfl rfl (xe cQ),fp.ix rfl rfl rfl cH⟩ (.ite H rfl (λH=>?_) (λH=>?_))
  ·refine .E 5 rfl (.R func71 results71 rfl ?_);cases H;cases bu;exact ⟨[],[],rfl,rfl,rfl,rfl,rfl,rfl,rfl,rfl,.ak _⟩
  ·obtain ⟨cY,H⟩:=aq H;refine .A 6 [.i (aZ+1)] rfl (aG rfl rfl cY) ?_;cases H;exact .z bu rfl rfl
 ·refine .E 5 rfl (.R func71 results71 rfl ?_);cases H;cases bu;exact ⟨[],[],rfl,rfl,rfl,rfl,rfl,rfl,rfl,rfl,.ak _⟩
theorem Bg {b8:List aa} {r:Bool} (H:sa b8=some r):aN prog 38 [.d (ai 12 aa.row b8),.d (.ex (.func (.func 39) #[] #[]))] ⟨[],[]⟩ (QE (.d (cB r)) ⟨[],[]⟩):=by
 refine aN.ll ?_;refine aN.enter func38 rfl ntmps38 rfl λS hS=>?_
 unfold sa at H;obtain ⟨y1,cQ,H⟩:=ae H;refine .A 12 [.i y1] rfl (av (en 30 rfl) rfl rfl (aD.ZU (ds:=[ai 12 aa.row b8,.ex (.func (.func 39) #[] #[])]) (Bf cQ))) (.R func38 results38 rfl ?_);cases H;exact ⟨[],[],rfl,rfl,rfl,rfl,rfl,rfl,rfl,rfl,.ak _⟩
theorem sP {b8:List ag} {r:Int} (H:jo b8=some r):aN prog 73 [.d (ai 4 ag.row b8),.d (.ex (.func (.func 42) #[] #[]))] ⟨[],[]⟩ (QE (.d (cI r)) ⟨[],[]⟩):=by
 refine aN.ll ?_;refine aN.enter func73 rfl ntmps73 rfl λS hS=>?_
 unfold jo at H;refine .A 12 [.i (b8.length:Int)] rfl (Ic.n rfl rfl) (.lp H (λaZ=>[(0,.d (ai 4 ag.row b8)),(1,.d (.ex (.func (.func 42) #[] #[]))),(7,.d (cI (b8.length:Int))),(8,.d (cI aZ))]) (λaZ=>⟨[],[]⟩) (.k4 rfl rfl rfl rfl (.nil)) rfl ?_);rintro aZ q1 H bu;unfold lG at H;refine .E 5 rfl (.ite H rfl (λH=>?_) (λH=>?_))
 ·obtain ⟨cH,H⟩:=aq H;obtain ⟨y1,cQ,H⟩:=ae H;refine .A 17 [.d (.ro (ag.row (nth b8 aZ.toNat))),.b y1] rfl ⟨sD (en 81 rfl) rfl rfl rfl (xf cQ),Ic.ix rfl rfl rfl cH⟩ (.ite H rfl (λH=>?_) (λH=>?_))
  ·refine .E 5 rfl (.R func73 results73 rfl ?_);cases H;cases bu;exact ⟨[],[],rfl,rfl,rfl,rfl,rfl,rfl,rfl,rfl,.ak _⟩
  ·obtain ⟨cY,H⟩:=aq H;refine .A 6 [.i (aZ+1)] rfl (aG rfl rfl cY) ?_;cases H;exact .z bu rfl rfl
 ·refine .E 5 rfl (.R func73 results73 rfl ?_);cases H;cases bu;exact ⟨[],[],rfl,rfl,rfl,rfl,rfl,rfl,rfl,rfl,.ak _⟩
theorem qO {b8:List ag} {r:Bool} (H:hU b8=some r):aN prog 41 [.d (ai 4 ag.row b8),.d (.ex (.func (.func 42) #[] #[]))] ⟨[],[]⟩ (QE (.d (cB r)) ⟨[],[]⟩):=by
 refine aN.ll ?_;refine aN.enter func41 rfl ntmps41 rfl λS hS=>?_
 unfold hU at H;obtain ⟨y1,cQ,H⟩:=ae H;refine .A 12 [.i y1] rfl (av (en 82 rfl) rfl rfl (aD.ZU (ds:=[ai 4 ag.row b8,.ex (.func (.func 42) #[] #[])]) (sP cQ))) (.R func41 results41 rfl ?_);cases H;exact ⟨[],[],rfl,rfl,rfl,rfl,rfl,rfl,rfl,rfl,.ak _⟩
theorem zb {df:aj} {r:Bool} (H:pI df=some r):aD prog 12 [.agg (aj.row df)] (·=cB r):=by
 refine aD.bc func12 rfl ntmps12 rfl λS hS=>?_
 unfold pI at H;obtain ⟨y1,cQ,H⟩:=ae H;obtain ⟨y2,fD,H⟩:=ae H;obtain ⟨y3,ju,H⟩:=ae H;refine .A 24 [.r 0,.b y1,.b y2,.b y3] rfl ⟨rfl,rfl,λhg=>av (en 83 rfl) rfl rfl (xU (ba ju hg)),rfl,rfl,rfl,λhg=>av (en 84 rfl) rfl rfl (xT (ba fD hg)),rfl,rfl,av (en 85 rfl) rfl rfl (Cv cQ)⟩ (.ite H rfl (λH=>?_) (λH=>?_))
 ·refine .E 4 rfl (.R func12 results12 rfl ?_);cases H;exact .m rfl (.ak _)
 ·obtain ⟨y4,nU,H⟩:=ae H;refine .A 8 [.b y4] rfl (av (en 86 rfl) rfl rfl (aD.ZU (ds:=[ai 12 aa.row df.aS,.ex (.func (.func 39) #[] #[])]) (Bg nU))) (.ite H rfl (λH=>?_) (λH=>?_))
  ·refine .E 4 rfl (.R func12 results12 rfl ?_);cases H;exact .m rfl (.ak _)
  ·obtain ⟨y5,uR,H⟩:=ae H;refine .A 8 [.b y5] rfl (av (en 87 rfl) rfl rfl (aD.ZU (ds:=[ai 4 ag.row df.bA,.ex (.func (.func 42) #[] #[])]) (qO uR))) (.ite H rfl (λH=>?_) (λH=>?_))
   ·refine .E 4 rfl (.R func12 results12 rfl ?_);cases H;exact .m rfl (.ak _)
   ·obtain ⟨y6,Dr,H⟩:=ae H;obtain ⟨cH,cY,dW,gC,H⟩:=ck4 H;refine .A 34 [.d (.agg (bV.row y6)),.r 1,.i (y6.accepted+y6.merged),.i ((y6.accepted+y6.merged)+y6.rejected),.i (((y6.accepted+y6.merged)+y6.rejected)+y6.bL),.i ((((y6.accepted+y6.merged)+y6.rejected)+y6.bL)+y6.open_)] rfl ⟨rfl,rfl,rfl,λhg=>aG rfl rfl (gC hg),rfl,rfl,rfl,λhg=>aG rfl rfl (dW hg),rfl,rfl,rfl,λhg=>aG rfl rfl (cY hg),rfl,rfl,rfl,λhg=>aG rfl rfl (cH hg),rfl,rfl,rfl,rfl,rfl,av (en 88 rfl) rfl rfl (lU Dr)⟩ (.R func12 results12 rfl ?_);cases H;exact .m rfl (.ak _)
theorem zC {r:Bool} (H:rD=some r):aD prog 10 [] (·=cB r):=by
 obtain ⟨i30,Kr,Ks,Za,Zb⟩:=Qo;obtain ⟨i34,OY,OZ,Zc,Zd⟩:=Qp;obtain ⟨i38,SP,SQ,hs38,hb38⟩:=YE;obtain ⟨i40,hi40,hz40,hs40,hb40⟩:=YF;obtain ⟨i58,ei,fm,e9,qd⟩:=gG;refine aD.bc func10 rfl ntmps10 rfl λS hS=>?_
 unfold rD at H;refine .A 11 [.d (.agg (aa.row kq8)),.r 0] rfl (aK.g (bh xC ei fm rfl rfl)) ?_;refine let z0:dI:=.row 58 [.d (cI 1),.d (cI 1),.d (cI 2),.d (cS ([49]:List UInt8)),.d (cS ([50]:List UInt8)),.d (cI 20),.d (cI 1),.d (cI 0),.d (cI 0),.d (cB false),.d (cI 0),.d (cB false)];let z1:dI:=.row 58 [.d (cI 0),.d (cI 0),.d (cI 0),.d (cS ([]:List UInt8)),.d (cS ([]:List UInt8)),.d (cI 0),.d (cI 0),.d (cI 0),.d (cI 0),.d (cB false),.d (cI 0),.d (cB false)];.SH (E0:=[(0,.d (cB false)),(1,.ref 0 0),(2,.ref 1 0),(3,.ref 2 0),(11,.d (.agg (aa.row kq8))),(12,.d (.agg (aa.row kq8))),(13,.d (.agg (aa.row kq8)))]) (st0:=⟨[z0,z0,z1],[]⟩) 5 2 3 4 [⟨[z0],[]⟩,⟨[z0,z1],[]⟩,⟨[z0,z1,z1],[]⟩,⟨[z0,z0,z1],[]⟩] [⟨[z0],[]⟩,⟨[z0,z1],[]⟩,⟨[z0,z1,z1],[]⟩,⟨[z0,z1,z0],[]⟩] nP (by kernel_rfl) (by decide) (by decide) (by decide) (by decide) (by kernel_rfl) (by kernel_rfl) rfl rfl (λKt=>?_) (λKt=>?_) ?_
 ·show lT _ _ _ _ _ _ _ _ _ _ (_::_) _ _;exact .g (x:=.d (.agg (aa.row kq8))) 0 2 ⟨aK.g (ch eJ gz rfl rfl (zaf rfl) rfl),aK.g (ch eJ gz rfl rfl (zaf rfl) rfl),aK.g (ch eJ gz rfl rfl (zaf rfl) rfl),trivial⟩ rfl (by kernel_rfl) rfl (.g (x:=.d (.agg (aa.row kq8))) 0 3 ⟨aK.g (ch eJ gz rfl rfl (zaf rfl) rfl),aK.g (ch eJ gz rfl rfl (zaf rfl) rfl),aK.g (ch eJ gz rfl rfl (zaf rfl) rfl),aK.g (ch eJ gz rfl rfl (zaf rfl) rfl),trivial⟩ rfl (by kernel_rfl) rfl (.v (x:=.ref 1 0) 0 (jh Kf rfl) rfl rfl rfl rfl (.v (x:=.ref 2 0) 1 (jh Kf rfl) rfl rfl rfl rfl (.u 2 (sA rfl rfl rfl rfl (zaf rfl) gz) rfl rfl rfl rfl (.nil rfl (.sub (.k7 rfl rfl rfl rfl rfl rfl rfl (.nil)) Kt))))))
 ·show lT _ _ _ _ _ _ _ _ _ _ (_::_) _ _;refine .g (x:=.d (.agg (aa.row kq8))) 0 2 ⟨aK.g (ch eJ gz rfl rfl (zaf rfl) rfl),aK.g (ch eJ gz rfl rfl (zaf rfl) rfl),aK.g (ch eJ gz rfl rfl (zaf rfl) rfl),trivial⟩ rfl (by kernel_rfl) rfl (.g (x:=.d (.agg (aa.row kq8))) 0 3 ⟨aK.g (ch eJ gz rfl rfl (zaf rfl) rfl),aK.g (ch eJ gz rfl rfl (zaf rfl) rfl),aK.g (ch eJ gz rfl rfl (zaf rfl) rfl),aK.g (ch eJ gz rfl rfl (zaf rfl) rfl),trivial⟩ rfl (by kernel_rfl) rfl (.v (x:=.ref 2 0) 1 (jh Kf rfl) rfl rfl rfl rfl (.v (x:=.ref 1 0) 0 (jh Kf rfl) rfl rfl rfl rfl (.u 2 (sA rfl rfl rfl rfl (zaf rfl) gz) rfl rfl rfl rfl (.nil rfl ?_)))));exact .reorder [0,2,1] [] rfl rfl rfl (by rw [hS];rfl) (by rw [hS];rfl) (by rw [hS];rfl) rfl rfl (.k7 rfl rfl rfl rfl rfl rfl rfl (.nil)) Kt
 show cd _ _ _ _ _ _ (_::_) _ _ _;refine .A 50 [.r 3,.d (.agg (bX.row (⟨0,100⟩:bX))),.r 4] rfl (aK.g (bh YH hi40 hz40 rfl rfl)) ?_;obtain ⟨y1,cQ,H⟩:=ae H;obtain ⟨y2,fD,H⟩:=ae H;refine let z0:dI:=.row 58 [.d (cI 1),.d (cI 1),.d (cI 2),.d (cS ([49]:List UInt8)),.d (cS ([50]:List UInt8)),.d (cI 20),.d (cI 1),.d (cI 0),.d (cI 0),.d (cB false),.d (cI 0),.d (cB false)];let z1:dI:=.row 58 [.d (cI 1),.d (cI 2),.d (cI 2),.d (cS ([51]:List UInt8)),.d (cS ([50]:List UInt8)),.d (cI 20),.d (cI 1),.d (cI 0),.d (cI 0),.d (cB false),.d (cI 0),.d (cB false)];let z2:dI:=.row 58 [.d (cI 1),.d (cI 1),.d (cI 2),.d (cS ([49]:List UInt8)),.d (cS ([50]:List UInt8)),.d (cI 20),.d (cI 1),.d (cI 5),.d (cI 1),.d (cB false),.d (cI 0),.d (cB false)];let z3:dI:=.row 58 [.d (cI 1),.d (cI 2),.d (cI 2),.d (cS ([49]:List UInt8)),.d (cS ([50]:List UInt8)),.d (cI 20),.d (cI 1),.d (cI 5),.d (cI 2),.d (cB true),.d (cI 0),.d (cB false)];let z4:dI:=.row 40 [.d (cI 0),.d (cI 100)];.wj 13 11 12 [⟨[z0,z1,z2,z3,z4],[]⟩,⟨[z0,z1,z2,z3,z4,.row 30 [.d aY,.d aY,.d aY,.d aY,.d aY,.d aY]],[]⟩,⟨[z0,z1,z2,z3,z4,aj.o30 y2.1],[]⟩] nP (by kernel_rfl) (by decide) (by decide) (by kernel_rfl) rfl ?_;show lT _ _ _ _ _ _ _ _ _ _ (_::_) _ _;refine .g (x:=.d (ai 7 Event.row y1)) 0 1 ⟨(av (en 89 rfl) rfl rfl (kQ cQ)),(av (en 89 rfl) rfl rfl (kQ cQ)),trivial⟩ rfl (by kernel_rfl) rfl (.g (x:=.d (.agg (aj.row kq13))) 0 1 ⟨aK.g (aK.le (bh G1 Kr Ks rfl rfl) (dX.d (.agg ⟨.nil 3,.nil 12,.nil 4,.nil 12,.nil 12,.nil 4,trivial⟩))),aK.g (aK.le (bh G1 Kr Ks rfl rfl) (dX.d (.agg ⟨.nil 3,.nil 12,.nil 4,.nil 12,.nil 12,.nil 4,trivial⟩))),trivial⟩ rfl (by kernel_rfl) rfl (.g (x:=.d (.agg (aa.row kq8))) 0 1 ⟨aK.g (ch eJ gz rfl rfl (zaf rfl) rfl),aK.g (ch eJ gz rfl rfl (zaf rfl) rfl),trivial⟩ rfl (by kernel_rfl) rfl (.g (x:=.d (.agg (aa.row kq9))) 0 1 ⟨aK.g (ch eJ gz rfl rfl (zaf rfl) rfl),aK.g (ch eJ gz rfl rfl (zaf rfl) rfl),trivial⟩ rfl (by kernel_rfl) rfl (.g (x:=.d (ai 12 aa.row ([kq8,kq9]:List aa))) 0 1 ⟨(gA (n:=2) (rows:=([kq8,kq9]:List aa).map aa.row) underlying23 ei e9 fm rfl rfl rfl rfl rfl),(gA (n:=2) (rows:=([kq8,kq9]:List aa).map aa.row) underlying23 ei e9 fm rfl rfl rfl rfl rfl),trivial⟩ rfl (by kernel_rfl) rfl (.g (x:=.d (.agg (Batch.row (⟨1,1,1,([kq8,kq9]:List aa)⟩:Batch)))) 0 1 ⟨aK.g (bh Np SP SQ rfl rfl),aK.g (bh Np SP SQ rfl rfl),trivial⟩ rfl (by kernel_rfl) rfl (.g (x:=.d (.agg (bX.row (⟨0,100⟩:bX)))) 0 1 ⟨aK.g (ch Ia Ni rfl rfl (zaf rfl) rfl),aK.g (ch Ia Ni rfl rfl (zaf rfl) rfl),trivial⟩ rfl (by kernel_rfl) rfl (.g (x:=.d (.dV [.agg (aj.row y2.1),cI y2.2])) 0 1 ⟨(av (en 90 rfl) rfl rfl (jf fD)),(av (en 90 rfl) rfl rfl (jf fD)),trivial⟩ rfl (by kernel_rfl) rfl (.g (x:=.d (.dV [.agg (aj.row y2.1),cI y2.2])) 0 1 ⟨aK.g (ct rfl),aK.g (ct rfl),trivial⟩ rfl (by kernel_rfl) rfl (.g (x:=.d (.agg (aj.row y2.1))) 0 1 ⟨aK.g (cq rfl rfl),aK.g (cq rfl rfl),trivial⟩ rfl (by kernel_rfl) rfl (.g (x:=.d (cI y2.2)) 0 2 ⟨aK.g (cq rfl rfl),aK.g (cq rfl rfl),aK.g (cq rfl rfl),trivial⟩ rfl (by kernel_rfl) rfl (.v (x:=.ref 5 0) 0 (jh Nr rfl) rfl rfl rfl rfl (.u 1 (sA rfl rfl rfl rfl (zaf rfl) G0) rfl rfl rfl rfl (.nil rfl ?_)))))))))))));show cd _ _ _ _ _ _ (_::_) _ _ _;refine .E 3 rfl ?_;obtain ⟨y3,ju,H⟩:=ae H;obtain ⟨y4,nU,H⟩:=ae H;refine let z0:dI:=.row 58 [.d (cI 1),.d (cI 1),.d (cI 2),.d (cS ([49]:List UInt8)),.d (cS ([50]:List UInt8)),.d (cI 20),.d (cI 1),.d (cI 0),.d (cI 0),.d (cB false),.d (cI 0),.d (cB false)];let z1:dI:=.row 58 [.d (cI 1),.d (cI 2),.d (cI 2),.d (cS ([51]:List UInt8)),.d (cS ([50]:List UInt8)),.d (cI 20),.d (cI 1),.d (cI 0),.d (cI 0),.d (cB false),.d (cI 0),.d (cB false)];let z2:dI:=.row 58 [.d (cI 1),.d (cI 1),.d (cI 2),.d (cS ([49]:List UInt8)),.d (cS ([50]:List UInt8)),.d (cI 20),.d (cI 1),.d (cI 5),.d (cI 1),.d (cB false),.d (cI 0),.d (cB false)];let z3:dI:=.row 58 [.d (cI 1),.d (cI 2),.d (cI 2),.d (cS ([49]:List UInt8)),.d (cS ([50]:List UInt8)),.d (cI 20),.d (cI 1),.d (cI 5),.d (cI 2),.d (cB true),.d (cI 0),.d (cB false)];let z4:dI:=.row 40 [.d (cI 0),.d (cI 100)];.wj 13 11 12 [⟨[z0,z1,z2,z3,z4,aj.o30 y2.1],[]⟩,⟨[z0,z1,z2,z3,z4,aj.o30 y2.1,.row 30 [.d aY,.d aY,.d aY,.d aY,.d aY,.d aY]],[]⟩,⟨[z0,z1,z2,z3,z4,aj.o30 y2.1,aj.o30 y4.1],[]⟩] nP (by kernel_rfl) (by decide) (by decide) (by kernel_rfl) rfl ?_;show lT _ _ _ _ _ _ _ _ _ _ (_::_) _ _;refine .g (x:=.d (ai 7 Event.row y3)) 0 1 ⟨(av (en 89 rfl) rfl rfl (kQ ju)),(av (en 89 rfl) rfl rfl (kQ ju)),trivial⟩ rfl (by kernel_rfl) rfl (.g (x:=.d (.agg (aj.row kq13))) 0 1 ⟨aK.g (aK.le (bh G1 Kr Ks rfl rfl) (dX.d (.agg ⟨.nil 3,.nil 12,.nil 4,.nil 12,.nil 12,.nil 4,trivial⟩))),aK.g (aK.le (bh G1 Kr Ks rfl rfl) (dX.d (.agg ⟨.nil 3,.nil 12,.nil 4,.nil 12,.nil 12,.nil 4,trivial⟩))),trivial⟩ rfl (by kernel_rfl) rfl (.g (x:=.d (.agg (aa.row kq10))) 0 1 ⟨aK.g (ch eJ gz rfl rfl (zaf rfl) rfl),aK.g (ch eJ gz rfl rfl (zaf rfl) rfl),trivial⟩ rfl (by kernel_rfl) rfl (.g (x:=.d (.agg (aa.row kq7))) 0 1 ⟨aK.g (ch eJ gz rfl rfl (zaf rfl) rfl),aK.g (ch eJ gz rfl rfl (zaf rfl) rfl),trivial⟩ rfl (by kernel_rfl) rfl (.g (x:=.d (ai 12 aa.row ([kq10,kq7]:List aa))) 0 1 ⟨(gA (n:=2) (rows:=([kq10,kq7]:List aa).map aa.row) underlying23 ei e9 fm rfl rfl rfl rfl rfl),(gA (n:=2) (rows:=([kq10,kq7]:List aa).map aa.row) underlying23 ei e9 fm rfl rfl rfl rfl rfl),trivial⟩ rfl (by kernel_rfl) rfl (.g (x:=.d (.agg (Batch.row (⟨1,1,1,([kq10,kq7]:List aa)⟩:Batch)))) 0 1 ⟨aK.g (bh Np SP SQ rfl rfl),aK.g (bh Np SP SQ rfl rfl),trivial⟩ rfl (by kernel_rfl) rfl (.g (x:=.d (.agg (bX.row (⟨0,100⟩:bX)))) 0 1 ⟨aK.g (ch Ia Ni rfl rfl (zaf rfl) rfl),aK.g (ch Ia Ni rfl rfl (zaf rfl) rfl),trivial⟩ rfl (by kernel_rfl) rfl (.g (x:=.d (.dV [.agg (aj.row y4.1),cI y4.2])) 0 1 ⟨(av (en 90 rfl) rfl rfl (jf nU)),(av (en 90 rfl) rfl rfl (jf nU)),trivial⟩ rfl (by kernel_rfl) rfl (.g (x:=.d (.dV [.agg (aj.row y4.1),cI y4.2])) 0 1 ⟨aK.g (ct rfl),aK.g (ct rfl),trivial⟩ rfl (by kernel_rfl) rfl (.g (x:=.d (.agg (aj.row y4.1))) 0 1 ⟨aK.g (cq rfl rfl),aK.g (cq rfl rfl),trivial⟩ rfl (by kernel_rfl) rfl (.g (x:=.d (cI y4.2)) 0 2 ⟨aK.g (cq rfl rfl),aK.g (cq rfl rfl),aK.g (cq rfl rfl),trivial⟩ rfl (by kernel_rfl) rfl (.v (x:=.ref 6 0) 0 (jh Nr rfl) rfl rfl rfl rfl (.u 1 (sA rfl rfl rfl rfl (zaf rfl) G0) rfl rfl rfl rfl (.nil rfl ?_)))))))))))));show cd _ _ _ _ _ _ (_::_) _ _ _;obtain ⟨y5,uR,H⟩:=ae H;obtain ⟨y6,Dr,H⟩:=ae H;refine .A 24 [.d (.agg (bV.row y5)),.d (.agg (bV.row (⟨2,1,0,0,1,0⟩:bV))),.b (!(ew (bV.bP y5) (bV.bP (⟨2,1,0,0,1,0⟩:bV)))),.d (.agg (bV.row y6)),.d (.agg (bV.row (⟨2,1,1,0,0,0⟩:bV))),.b (!(ew (bV.bP y6) (bV.bP (⟨2,1,1,0,0,0⟩:bV))))] rfl ⟨rfl,λhg=>aK.g (qT TZ rfl rfl (xs:=bV.bP y6) (ys:=bV.bP (⟨2,1,1,0,0,0⟩:bV)) rfl rfl rfl rfl),rfl,rfl,λhg=>aK.g (bh No OY OZ rfl rfl),λhg=>av (en 88 rfl) rfl rfl (lU (ba Dr hg)),rfl,rfl,λhg=>aK.g (qT TZ rfl rfl (xs:=bV.bP y5) (ys:=bV.bP (⟨2,1,0,0,1,0⟩:bV)) rfl rfl rfl rfl),rfl,rfl,λhg=>aK.g (bh No OY OZ rfl rfl),λhg=>av (en 88 rfl) rfl rfl (lU (ba uR hg)),rfl,rfl,rfl⟩ (.ite H rfl (λH=>?_) (λH=>?_))
 ·refine .E 4 rfl (.R func10 results10 rfl ?_);cases H;exact .m rfl (.ak _)
 ·refine .E 2 rfl ?_;obtain ⟨y7,Ps,H⟩:=ae H;obtain ⟨y8,R6,H⟩:=ae H;refine let z0:dI:=.row 58 [.d (cI 1),.d (cI 1),.d (cI 2),.d (cS ([49]:List UInt8)),.d (cS ([50]:List UInt8)),.d (cI 20),.d (cI 1),.d (cI 0),.d (cI 0),.d (cB false),.d (cI 0),.d (cB false)];let z1:dI:=.row 58 [.d (cI 1),.d (cI 2),.d (cI 2),.d (cS ([51]:List UInt8)),.d (cS ([50]:List UInt8)),.d (cI 20),.d (cI 1),.d (cI 0),.d (cI 0),.d (cB false),.d (cI 0),.d (cB false)];let z2:dI:=.row 58 [.d (cI 1),.d (cI 1),.d (cI 2),.d (cS ([49]:List UInt8)),.d (cS ([50]:List UInt8)),.d (cI 20),.d (cI 1),.d (cI 5),.d (cI 1),.d (cB false),.d (cI 0),.d (cB false)];let z3:dI:=.row 58 [.d (cI 1),.d (cI 2),.d (cI 2),.d (cS ([49]:List UInt8)),.d (cS ([50]:List UInt8)),.d (cI 20),.d (cI 1),.d (cI 5),.d (cI 2),.d (cB true),.d (cI 0),.d (cB false)];.sF 4 3 [⟨[z0,z1,z2,z3,.row 40 [.d (cI 0),.d (cI 100)],aj.o30 y2.1,aj.o30 y4.1],[]⟩,⟨[z0,z1,z2,z3,.row 40 [.d (cI 0),.d (cI 100)],aj.o30 y2.1,aj.o30 y4.1,.row 30 [.d aY,.d aY,.d aY,.d aY,.d aY,.d aY]],[]⟩] nP (by kernel_rfl) (by decide) rfl ?_;show lT _ _ _ _ _ _ _ _ _ _ (_::_) _ _;refine .g (x:=.d (ai 7 Event.row y7)) 0 1 ⟨(av (en 89 rfl) rfl rfl (kQ Ps)),(av (en 89 rfl) rfl rfl (kQ Ps)),trivial⟩ rfl (by kernel_rfl) rfl (.g (x:=.d (.agg (aj.row y2.1))) 0 1 ⟨aK.g (ch H7 G0 rfl rfl (zaf rfl) rfl),aK.g (ch H7 G0 rfl rfl (zaf rfl) rfl),trivial⟩ rfl (by kernel_rfl) rfl (.g (x:=.d (.agg (aj.row y8))) 0 1 ⟨(av (en 91 rfl) rfl rfl (sy R6)),(av (en 91 rfl) rfl rfl (sy R6)),trivial⟩ rfl (by kernel_rfl) rfl (.v (x:=.ref 7 0) 0 (jh Nr rfl) rfl rfl rfl rfl (.nil rfl ?_))));show cd _ _ _ _ _ _ (_::_) _ _ _;obtain ⟨cH,cY,H⟩:=ck2 H;obtain ⟨y9,Wm,H⟩:=ae H;obtain ⟨dW,H⟩:=aq H;refine .A 50 [.i (y8.usages.length:Int),.d (.ro (aC.row (nth y8.usages (Int.toNat (1))))),.d (.ro (aC.row (nth y8.usages (Int.toNat (1))))),.i (y8.aS.length:Int),.b y9,.i (y4.1.usages.length:Int),.d (.ro (aC.row (nth y4.1.usages (Int.toNat (0)))))] rfl ⟨rfl,rfl,rfl,rfl,λhg=>B5.ix rfl rfl rfl (dW hg),rfl,rfl,rfl,rfl,λhg=>B5.n rfl rfl,rfl,rfl,rfl,λhg=>av (en 92 rfl) rfl rfl (zb (ba Wm hg)),rfl,rfl,rfl,λhg=>fp.n rfl rfl,rfl,rfl,rfl,rfl,rfl,rfl,λhg=>B5.ix rfl rfl rfl (cY hg),rfl,rfl,rfl,rfl,rfl,rfl,λhg=>B5.ix rfl rfl rfl (cH hg),rfl,rfl,B5.n rfl rfl⟩ (.R func10 results10 rfl ?_);cases H;exact .m rfl (.ak _)
theorem Bh {l8:List Head} {vt tn r:Int} (H:oU l8 vt tn=some r):aD prog 103 [ai 4 Head.row l8,cI vt,cI tn] (·=cI r):=by
 refine aD.bc func103 rfl ntmps103 rfl λS hS=>?_
 unfold oU at H;refine .E 14 rfl (.lp H (λ⟨G4,ef⟩=>[(0,.d (ai 4 Head.row l8)),(1,.d (cI vt)),(2,.d (cI tn)),(7,.d (cI G4)),(8,.d (cI ef))]) (λ⟨G4,ef⟩=>⟨[],[]⟩) (.k5 rfl rfl rfl rfl rfl (.nil)) rfl ?_);rintro ⟨G4,ef⟩ q1 H bu
 dsimp only at H
 unfold qZ at H;refine .E 7 rfl (.ite H rfl (λH=>?_) (λH=>?_))
 ·obtain ⟨cH,H⟩:=aq H;refine .A 13 [.d (.ro (Head.row (nth l8 ef.toNat)))] rfl (BI.ix rfl rfl rfl cH) (.ite H rfl (λH=>?_) (λH=>?_))
  ·obtain ⟨cY,dW,gC,H⟩:=ck3 H;refine .A 15 [.d (.ro (Head.row (nth l8 ef.toNat))),.i (((nth l8 ef.toNat).number)+1),.i (ef+1)] rfl ⟨aG rfl rfl gC,aG rfl rfl dW,BI.ix rfl rfl rfl cY⟩ ?_;cases H;exact .z bu rfl rfl
  ·obtain ⟨j5,H⟩:=aq H;refine .A 7 [.i (ef+1)] rfl (aG rfl rfl j5) ?_;cases H;exact .z bu rfl rfl
 ·refine .E 6 rfl (.R func103 results103 rfl ?_);cases H;cases bu;exact .m rfl (.ak _)
theorem Gd {v0:aF} {r:Bool} (H:rE v0=some r):aD prog 58 [.agg (aF.row v0)] (·=cB r):=by
 refine aD.bc func58 rfl ntmps58 rfl λS hS=>?_
 unfold rE at H;refine .A 11 [.r 0] rfl trivial (.lp H (λbI=>[(1,.ref 0 0),(3,.d (cI bI))]) (λbI=>⟨[aF.o26 v0],[]⟩) (.k2 rfl rfl (.nil)) rfl ?_);rintro bI q1 H bu;unfold mz at H;refine .A 9 [.i (v0.aO.length:Int)] rfl (BI.n rfl rfl) (.ite H rfl (λH=>?_) (λH=>?_))
 ·obtain ⟨cH,H⟩:=aq H;obtain ⟨y1,cQ,H⟩:=ae H;refine .A 66 [.d (.ro (Head.row (nth v0.aO bI.toNat))),.r 1,.p 49,.i y1] rfl ⟨rfl,rfl,rfl,rfl,rfl,rfl,rfl,rfl,rfl,rfl,rfl,rfl,rfl,rfl,rfl,λhg=>av (en 93 rfl) rfl rfl (Bh (ba cQ hg)),rfl,rfl,rfl,rfl,rfl,rfl,rfl,rfl,rfl,rfl,rfl,rfl,rfl,rfl,rfl,(show cr _ _=true by kernel_rfl),BI.ix rfl rfl rfl cH⟩ (.ite H rfl (λH=>?_) (λH=>?_))
  ·refine .E 4 rfl (.R func58 results58 rfl ?_);cases H;cases bu;exact .m rfl (.ak _)
  ·obtain ⟨cY,H⟩:=aq H;refine .A 7 [.i (bI+1)] rfl (aG rfl rfl cY) ?_;cases H;exact .t 1 0 bu rfl rfl rfl rfl rfl hS rfl
 ·refine .E 5 rfl (.R func58 results58 rfl ?_);cases H;cases bu;exact .m rfl (.ak _)
theorem nB {gH mm:Int} {r:Bool} (H:fR gH mm=some r):aD prog 64 [cI gH,cI mm] (·=cB r):=by
 refine aD.bc func64 rfl ntmps64 rfl λS hS=>?_
 unfold fR at H;refine .A 22 [] rfl ⟨rfl,rfl,rfl,rfl,rfl,rfl⟩ (.R func64 results64 rfl ?_);cases H;exact .m rfl (.ak _)
theorem Ge {v0:List Range} {r:Bool} (H:rF v0=some r):aD prog 59 [ai 3 Range.row v0] (·=cB r):=by
 refine aD.bc func59 rfl ntmps59 rfl λS hS=>?_
 unfold rF at H;refine .E 10 rfl (.lp H (λbI=>[(0,.d (ai 3 Range.row v0)),(3,.d (cI bI))]) (λbI=>⟨[],[]⟩) (.k2 rfl rfl (.nil)) rfl ?_);rintro bI q1 H bu;unfold mA at H;refine .A 8 [.i (v0.length:Int)] rfl (wu.n rfl rfl) (.ite H rfl (λH=>?_) (λH=>?_))
 ·obtain ⟨cH,H⟩:=aq H;obtain ⟨y1,cQ,H⟩:=ae H;obtain ⟨y2,fD,H⟩:=ae H;refine .A 37 [.d (.ro (Range.row (nth v0 bI.toNat))),.r 0,.b y1,.b y2] rfl ⟨rfl,rfl,rfl,rfl,rfl,rfl,rfl,λhg=>av (en 94 rfl) rfl rfl (nB (ba fD hg)),rfl,rfl,rfl,rfl,av (en 94 rfl) rfl rfl (nB cQ),wu.ix rfl rfl rfl cH⟩ (.ite H rfl (λH=>?_) (λH=>?_))
  ·refine .E 4 rfl (.R func59 results59 rfl ?_);cases H;cases bu;exact .m rfl (.ak _)
  ·obtain ⟨cY,dW,gC,j5,pb,uS,yS,H⟩:=ck7 H;refine .C 36 [.p 36,.i (bI-1),.d (.ro (Range.row (nth v0 (bI-1).toNat))),.i (bI-1),.d (.ro (Range.row (nth v0 (bI-1).toNat))),.i (bI-1),.d (.ro (Range.row (nth v0 (bI-1).toNat))),.i (((nth v0 (bI-1).toNat).iu)+1)] rfl ⟨rfl,rfl,rfl,λhg=>aG rfl rfl (yS hg),rfl,rfl,rfl,λhg=>wu.ix rfl rfl rfl (uS hg),rfl,rfl,λhg=>gF rfl rfl (pb hg),rfl,rfl,rfl,rfl,rfl,rfl,rfl,λhg=>wu.ix rfl rfl rfl (j5 hg),rfl,rfl,λhg=>gF rfl rfl (gC hg),rfl,rfl,rfl,rfl,rfl,rfl,rfl,λhg=>wu.ix rfl rfl rfl (dW hg),rfl,rfl,λhg=>gF rfl rfl (cY hg),rfl,(show cr _ _=true by kernel_rfl)⟩ (.gE (env':=[(58,_),(68,_)]) rfl rfl rfl ⟨.inr (.inl rfl),⟨.inr (.inr ⟨_,_,rfl,rfl⟩),trivial⟩⟩ rfl (λhg=>aK.g (dv rfl rfl rfl)) (.gE (env':=[(48,_),(69,_)]) rfl rfl rfl ⟨.inr (.inl rfl),⟨.inr (.inr ⟨_,_,rfl,rfl⟩),trivial⟩⟩ rfl (λhg=>aK.g (yl rfl rfl rfl)) (.A 3 [] rfl rfl (.ite H rfl (λH=>?_) (λH=>?_)))))
   ·refine .E 4 rfl (.R func59 results59 rfl ?_);cases H;cases bu;exact .m rfl (.ak _)
   ·obtain ⟨Gb,H⟩:=aq H;refine .A 7 [.i (bI+1)] rfl (aG rfl rfl Gb) ?_;cases H;exact .t 0 0 bu rfl rfl rfl rfl rfl hS rfl
 ·refine .E 5 rfl (.R func59 results59 rfl ?_);cases H;cases bu;exact .m rfl (.ak _)
theorem mW {yL Ns Il:Int} {r:Bool} (H:mB yL Ns Il=some r):aD prog 108 [cI yL,cI Ns,cI Il] (·=cB r):=by
 refine aD.bc func108 rfl ntmps108 rfl λS hS=>?_
 unfold mB at H;refine .A 16 [] rfl ⟨rfl,rfl,rfl⟩ (.R func108 results108 rfl ?_);cases H;exact .m rfl (.ak _)
theorem uZ {b8:List UInt8} {r:Bool} (H:mD b8=some r):aD prog 109 [cS b8] (·=cB r):=by
 refine aD.bc func109 rfl ntmps109 rfl λS hS=>?_
 unfold mD at H;refine .E 9 rfl (.bH (ι:=Unit) (λ_=>[(0,.d (cS b8))]) (λ_=>⟨[],[]⟩) (λs=>mC b8=some r) ?_ ?_)
 ·rintro _ H;replace H:mC b8=some r:=H;unfold mC at H;refine .A 12 [.i (b8.length:Int),.i (b8.length:Int)] rfl ⟨rfl,rfl,λhg=>aK.g (oN underlying9 rfl),rfl,aK.g (oN underlying9 rfl)⟩ (.R func109 results109 rfl ?_);cases H;exact .m rfl (.ak _)
 ·intro p7 eX;refine .lp H (λbB=>[(0,.d (cS b8)),(3,.d (cI bB))]) (λbB=>⟨[],[]⟩) (.k2 rfl rfl (.nil)) rfl ?_;rintro bB q1 H bu;unfold pJ at H;refine .A 8 [.i (b8.length:Int)] rfl (aK.g (oN underlying9 rfl)) (.ite H rfl (λH=>?_) (λH=>?_))
  ·obtain ⟨cH,cY,H⟩:=ck2 H;refine .A 16 [.c (nth b8 bB.toNat),.b (decide ((nth b8 bB.toNat)<48)),.c (nth b8 bB.toNat),.b (decide ((nth b8 bB.toNat) > 57))] rfl ⟨rfl,λhg=>aK.g (HH (a:=nth b8 bB.toNat) (b:=57) rfl rfl),rfl,λhg=>aK.g (nY (i:=bB) underlying9 rfl rfl (cY hg)),rfl,rfl,aK.g (HG (a:=nth b8 bB.toNat) (b:=48) rfl rfl),aK.g (nY (i:=bB) underlying9 rfl rfl cH)⟩ (.ite H rfl (λH=>?_) (λH=>?_))
   ·refine .E 4 rfl (.R func109 results109 rfl ?_);cases H;cases bu;exact .m rfl (.ak _)
   ·obtain ⟨dW,H⟩:=aq H;refine .A 7 [.i (bB+1)] rfl (aG rfl rfl dW) ?_;cases H;exact .z bu rfl rfl
  ·refine .E 1 rfl ?_;obtain ⟨q0,H9,lz⟩:=bR H;clear H;cases lz;cases bu;have H:=H9;exact .z (eX () H) rfl rfl
theorem zD {v0:aa} {r:Int} (H:oZ v0=some r):aD prog 63 [.agg (aa.row v0)] (·=cI r):=by
 refine aD.bc func63 rfl ntmps63 rfl λS hS=>?_
 unfold oZ at H;obtain ⟨y1,cQ,H⟩:=ae H;obtain ⟨y2,fD,H⟩:=ae H;refine .A 21 [.r 0,.b y1,.b y2] rfl ⟨rfl,rfl,λhg=>av (en 95 rfl) rfl rfl (mW (ba fD hg)),rfl,rfl,av (en 95 rfl) rfl rfl (mW cQ)⟩ (.ite H rfl (λH=>?_) (λH=>?_))
 ·refine .E 4 rfl (.R func63 results63 rfl ?_);cases H;exact .m rfl (.ak _)
 ·obtain ⟨y3,ju,H⟩:=ae H;refine .A 8 [.b y3] rfl (av (en 95 rfl) rfl rfl (mW ju)) (.ite H rfl (λH=>?_) (λH=>?_))
  ·refine .E 4 rfl (.R func63 results63 rfl ?_);cases H;exact .m rfl (.ak _)
  ·obtain ⟨y4,nU,H⟩:=ae H;refine .A 8 [.b y4] rfl (av (en 96 rfl) rfl rfl (uZ nU)) (.ite H rfl (λH=>?_) (λH=>?_))
   ·refine .E 4 rfl (.R func63 results63 rfl ?_);cases H;exact .m rfl (.ak _)
   ·obtain ⟨y5,uR,H⟩:=ae H;refine .B 18 [.b y5] rfl ⟨rfl,rfl,rfl,rfl,rfl,rfl,rfl,rfl,av (en 96 rfl) rfl rfl (uZ uR)⟩ (.gE (env':=[(37,_),(40,_)]) rfl rfl rfl ⟨.inr (.inl rfl),⟨.inr (.inr ⟨_,_,rfl,rfl⟩),trivial⟩⟩ rfl (λhg=>aK.g (dv rfl rfl rfl)) (.gE (env':=[(33,_),(41,_)]) rfl rfl rfl ⟨.inr (.inl rfl),⟨.inr (.inr ⟨_,_,rfl,rfl⟩),trivial⟩⟩ rfl (λhg=>aK.g (yl rfl rfl rfl)) (.A 3 [] rfl rfl (.ite H rfl (λH=>?_) (λH=>?_)))))
    ·refine .E 4 rfl (.R func63 results63 rfl ?_);cases H;exact .m rfl (.ak _)
    ·obtain ⟨y6,Dr,H⟩:=ae H;refine .A 8 [.b y6] rfl (av (en 95 rfl) rfl rfl (mW Dr)) (.ite H rfl (λH=>?_) (λH=>?_))
     ·refine .E 4 rfl (.R func63 results63 rfl ?_);cases H;exact .m rfl (.ak _)
     ·obtain ⟨y7,Ps,H⟩:=ae H;refine .B 14 [.b y7] rfl ⟨rfl,rfl,rfl,rfl,rfl,av (en 95 rfl) rfl rfl (mW Ps)⟩ (.gE (env':=[(58,_),(61,_)]) rfl rfl rfl ⟨.inr (.inl rfl),⟨.inr (.inr ⟨_,_,rfl,rfl⟩),trivial⟩⟩ rfl (λhg=>aK.g (dv rfl rfl rfl)) (.A 3 [] rfl rfl (.ite H rfl (λH=>?_) (λH=>?_))))
      ·refine .E 4 rfl (.R func63 results63 rfl ?_);cases H;exact .m rfl (.ak _)
      ·obtain ⟨cH,H⟩:=aq H;refine .A 15 [.i (v0.start+v0.cU)] rfl ⟨rfl,rfl,λhg=>aG rfl rfl (cH hg),rfl,rfl,rfl,rfl⟩ (.ite H rfl (λH=>?_) (λH=>?_))
       ·refine .E 4 rfl (.R func63 results63 rfl ?_);cases H;exact .m rfl (.ak _)
       ·obtain ⟨y8,R6,H⟩:=ae H;obtain ⟨y9,Wm,H⟩:=ae H;refine .A 14 [.b y8,.b y9] rfl ⟨rfl,rfl,λhg=>av (en 95 rfl) rfl rfl (mW (ba Wm hg)),rfl,rfl,av (en 95 rfl) rfl rfl (mW R6)⟩ (.ite H rfl (λH=>?_) (λH=>?_))
        ·refine .E 4 rfl (.R func63 results63 rfl ?_);cases H;exact .m rfl (.ak _)
        ·refine .B 16 [.b ((v0.part==0) != (v0.call==0))] rfl ⟨rfl,rfl,rfl,rfl,aK.g (DZ rfl underlying4 rfl)⟩ (.gE (env':=[(98,_),(101,_)]) rfl rfl rfl ⟨.inr (.inl rfl),⟨.inr (.inr ⟨_,_,rfl,rfl⟩),trivial⟩⟩ rfl (λhg=>aK.g (dv rfl rfl rfl)) (.A 3 [] rfl rfl (.ite H rfl (λH=>?_) (λH=>?_))))
         ·refine .E 4 rfl (.R func63 results63 rfl ?_);cases H;exact .m rfl (.ak _)
         ·obtain ⟨V8,Wn,H⟩:=ae H;refine .A 8 [.b V8] rfl (av (en 95 rfl) rfl rfl (mW Wn)) (.ite H rfl (λH=>?_) (λH=>?_))
          ·refine .E 4 rfl (.R func63 results63 rfl ?_);cases H;exact .m rfl (.ak _)
          ·refine .A 11 [] rfl ⟨rfl,rfl,rfl⟩ (.ite H rfl (λH=>?_) (λH=>?_))
           ·refine .E 4 rfl (.R func63 results63 rfl ?_);cases H;exact .m rfl (.ak _)
           ·refine .E 6 rfl (.R func63 results63 rfl ?_);cases H;exact .m rfl (.ak _)
theorem oD {nm:aa} {r:Int} (H:gM nm=some r):aD prog 33 [.agg (aa.row nm)] (·=cI r):=by
 refine aD.bc func33 rfl ntmps33 rfl λS hS=>?_
 unfold gM at H;obtain ⟨y1,cQ,H⟩:=ae H;refine .A 11 [.r 0,.i y1] rfl (av (en 97 rfl) rfl rfl (zD cQ)) (.R func33 results33 rfl ?_);cases H;exact .m rfl (.ak _)
theorem xV {fw gi:aa} {r:Bool} (H:nq fw gi=some r):aD prog 104 [.agg (aa.row fw),.agg (aa.row gi)] (·=cB r):=by
 refine aD.bc func104 rfl ntmps104 rfl λS hS=>?_
 unfold nq at H;refine .A 15 [.r 0,.r 1] rfl trivial (.ite H rfl (λH=>?_) (λH=>?_))
 ·refine .E 9 rfl (.R func104 results104 rfl ?_);cases H;exact .m rfl (.ak _)
 ·refine .E 10 rfl (.ite H rfl (λH=>?_) (λH=>?_))
  ·refine .E 9 rfl (.R func104 results104 rfl ?_);cases H;exact .m rfl (.ak _)
  ·refine .E 10 rfl (.R func104 results104 rfl ?_);cases H;exact .m rfl (.ak _)
theorem Bi {fw gi:aa} {r:Bool} (H:qC fw gi=some r):aD prog 145 [.agg (aa.row fw),.agg (aa.row gi)] (·=cB r):=by
 refine aD.bc func145 rfl ntmps145 rfl λS hS=>?_
 unfold qC at H;refine .A 22 [.r 0,.r 1] rfl ⟨rfl,rfl,rfl,rfl,rfl⟩ (.R func145 results145 rfl ?_);cases H;exact .m rfl (.ak _)
theorem xW {db:List aa} {rY:aa} {qD:Bool} {r:(List Int)} (H:nr db rY qD=some r):aD prog 106 [ai 12 aa.row db,.agg (aa.row rY),cB qD] (·=ai 1 rI r):=by
 obtain ⟨i3,uT,xa,yT,F3⟩:=AW;refine aD.bc func106 rfl ntmps106 rfl λS hS=>?_
 unfold nr at H;refine .A 15 [.r 0] rfl trivial (.tok (i:=7) (e:=3) (sz:=1) rfl (.lp H (λ⟨ly,ef⟩=>[(0,.d (ai 12 aa.row db)),(2,.d (cB qD)),(4,.ref 0 0),(7,.cz 1 (ly.map rI) 0),(8,.d (cI ef))]) (λ⟨ly,ef⟩=>⟨[aa.o58 rY],[G2 ly.length]⟩) (.k5 rfl rfl rfl rfl rfl (.nil)) rfl ?_));rintro ⟨ly,ef⟩ q1 H bu
 dsimp only at H
 unfold oJ at H;refine .A 8 [.i (db.length:Int)] rfl (fp.n rfl rfl) (.ite H rfl (λH=>?_) (λH=>?_))
 ·obtain ⟨cH,H⟩:=aq H;obtain ⟨y1,cQ,H⟩:=ae H;obtain ⟨cY,dW,H⟩:=ck2 H;refine .A 24 [.p 17,.d (.ro (aa.row (nth db ef.toNat))),.b y1,.d (.ro (aa.row (nth db ef.toNat))),.i (ly.length:Int),.i ((ly.length:Int)+1)] rfl ⟨rfl,rfl,rfl,λhg=>aG rfl rfl (dW hg),rfl,λhg=>r7.n rfl rfl,rfl,rfl,rfl,λhg=>fp.ix rfl rfl rfl (cY hg),rfl,rfl,av (en 98 rfl) rfl rfl (Bi cQ),fp.ix rfl rfl rfl cH,(show cr _ _=true by kernel_rfl)⟩ (.ite H rfl (λH=>?_) (λH=>?_))
  ·obtain ⟨gC,j5,H⟩:=ck2 H;refine .A 19 [.d (ai 1 rI ([ef]:List Int)),.a 0 3 1 rI (ly++([ef]:List Int)),.d (.ro (aa.row (nth db ef.toNat)))] rfl ⟨rfl,rfl,rfl,λhg=>fp.ix rfl rfl rfl (j5 hg),rfl,rfl,r7.a rfl rfl rfl rfl gC,aT underlying121 uT yT xa rfl rfl rfl rfl rfl⟩ (.ite H rfl (λH=>?_) (λH=>?_))
   ·refine .E 6 rfl (.R func106 results106 rfl ?_);cases H;cases bu;exact .m rfl (.cz _ _ _)
   ·obtain ⟨pb,H⟩:=aq H;refine .A 7 [.i (ef+1)] rfl (aG rfl rfl pb) ?_;cases H;exact .z bu rfl rfl
  ·obtain ⟨uS,H⟩:=aq H;refine .A 7 [.i (ef+1)] rfl (aG rfl rfl uS) ?_;cases H;exact .z bu rfl rfl
 ·refine .E 6 rfl (.R func106 results106 rfl ?_);cases H;cases bu;exact .m rfl (.cz _ _ _)
theorem Bj {aL:List aa} {kq:List Int} {r:(List aa)×(List aa)} (H:qE aL kq=some r):aD prog 105 [ai 12 aa.row aL,ai 1 rI kq] (·=.dV [ai 12 aa.row r.1,ai 12 aa.row r.2]):=by
 obtain ⟨i58,ei,fm,e9,qd⟩:=gG;refine aD.bc func105 rfl ntmps105 rfl λS hS=>?_
 unfold qE at H;refine .E 20 rfl (.tok (i:=6) (e:=58) (sz:=12) rfl (.tok (i:=7) (e:=58) (sz:=12) rfl (.lp H (λ⟨dK,oo,uv,cm⟩=>[(0,.d (ai 12 aa.row aL)),(1,.d (ai 1 rI kq)),(6,.cz 12 (dK.map aa.row) 0),(7,.cz 12 (oo.map aa.row) 1),(8,.d (cI uv)),(9,.d (cI cm))]) (λ⟨dK,oo,uv,cm⟩=>⟨[],[bo dK.length,bo oo.length]⟩) (.k6 rfl rfl rfl rfl rfl rfl (.nil)) rfl ?_)));rintro ⟨dK,oo,uv,cm⟩ q1 H bu
 dsimp only at H
 unfold q8 at H;refine .A 8 [.i (aL.length:Int)] rfl (fp.n rfl rfl) (.ite H rfl (λH=>?_) (λH=>?_))
 ·obtain ⟨cH,H⟩:=aq H;refine .A 18 [.i (kq.length:Int),.d (.ro (rI (nth kq uv.toNat)))] rfl ⟨rfl,rfl,rfl,rfl,λhg=>r7.ix rfl rfl rfl (cH hg),rfl,rfl,r7.n rfl rfl⟩ (.ite H rfl (λH=>?_) (λH=>?_))
  ·obtain ⟨cY,dW,gC,j5,H⟩:=ck4 H;refine .A 22 [.d (.ro (aa.row (nth aL cm.toNat))),.d (ai 12 aa.row ([nth aL cm.toNat]:List aa)),.a 0 58 12 aa.row (dK++([nth aL cm.toNat]:List aa)),.i (uv+1),.i (cm+1)] rfl ⟨aG rfl rfl j5,aG rfl rfl gC,fp.a rfl rfl rfl rfl dW,aT underlying23 ei e9 fm rfl rfl rfl rfl rfl,fp.ix rfl rfl rfl cY⟩ ?_;cases H;exact .z bu rfl rfl
  ·obtain ⟨pb,uS,yS,H⟩:=ck3 H;refine .A 16 [.d (.ro (aa.row (nth aL cm.toNat))),.d (ai 12 aa.row ([nth aL cm.toNat]:List aa)),.a 1 58 12 aa.row (oo++([nth aL cm.toNat]:List aa)),.i (cm+1)] rfl ⟨aG rfl rfl yS,fp.a rfl rfl rfl rfl uS,aT underlying23 ei e9 fm rfl rfl rfl rfl rfl,fp.ix rfl rfl rfl pb⟩ ?_;cases H;exact .z bu rfl rfl
 ·refine .E 8 rfl (.R func105 results105 rfl ?_);cases H;cases bu;exact .m rfl (.qq ⟨.cz _ _ _,.cz _ _ _,trivial⟩)
theorem Gf {v0:List aa} {r:aa×Bool} (H:o4 v0=some r):aD prog 147 [ai 12 aa.row v0] (·=.dV [.agg (aa.row r.1),cB r.2]):=by
 obtain ⟨i58,ei,fm,e9,qd⟩:=gG;refine aD.bc func147 rfl ntmps147 rfl λS hS=>?_
 unfold o4 at H;refine .A 14 [.r 0,.r 1] rfl trivial (.bH (ι:=Int×Int×Int×List UInt8×List UInt8×Int×Int×Int×Bool) (λ⟨ko,Cb,Cc,Cd,Ce,Cg,pA,yt,yu⟩=>[(0,.d (ai 12 aa.row v0)),(2,.ref 0 0),(4,.ref 1 0)]) (λ⟨ko,Cb,Cc,Cd,Ce,Cg,pA,yt,yu⟩=>⟨[.row 58 [.d (cI 0),.d (cI 0),.d (cI 0),.d (cS ([]:List UInt8)),.d (cS ([]:List UInt8)),.d (cI 0),.d (cI 0),.d (cI 0),.d (cI 0),.d (cB false),.d (cI 0),.d (cB false)],.row 58 [.d (cI ko),.d (cI Cb),.d (cI Cc),.d (cS Cd),.d (cS Ce),.d (cI Cg),.d (cI pA),.d (cI 0),.d (cI 0),.d (cB false),.d (cI yt),.d (cB yu)]],[]⟩) (λs=>mE v0 s.1 s.2.1 s.2.2.1 s.2.2.2.1 s.2.2.2.2.1 s.2.2.2.2.2.1 s.2.2.2.2.2.2.1 s.2.2.2.2.2.2.2.1 s.2.2.2.2.2.2.2.2=some r) ?_ ?_)
 ·rintro ⟨ko,Cb,Cc,Cd,Ce,Cg,pA,yt,yu⟩ H;replace H:mE v0 ko Cb Cc Cd Ce Cg pA yt yu=some r:=H;unfold mE at H;refine .A 9 [.i (v0.length:Int)] rfl (fp.n rfl rfl) (.R func147 results147 rfl ?_);cases H;exact .m rfl (.kV rfl)
 ·intro p7 eX;refine .lp H (λ⟨sb,cw,pL,pM,Ch,Ci,pD,fh,yw,yx⟩=>[(0,.d (ai 12 aa.row v0)),(2,.ref 0 0),(4,.ref 1 0),(5,.d (cI sb))]) (λ⟨sb,cw,pL,pM,Ch,Ci,pD,fh,yw,yx⟩=>⟨[.row 58 [.d (cI 0),.d (cI 0),.d (cI 0),.d (cS ([]:List UInt8)),.d (cS ([]:List UInt8)),.d (cI 0),.d (cI 0),.d (cI 0),.d (cI 0),.d (cB false),.d (cI 0),.d (cB false)],.row 58 [.d (cI cw),.d (cI pL),.d (cI pM),.d (cS Ch),.d (cS Ci),.d (cI pD),.d (cI fh),.d (cI 0),.d (cI 0),.d (cB false),.d (cI yw),.d (cB yx)]],[]⟩) (.k4 rfl rfl rfl rfl (.nil)) rfl ?_;rintro ⟨sb,cw,pL,pM,Ch,Ci,pD,fh,yw,yx⟩ q1 H bu
  dsimp only at H
  unfold pK at H;refine .A 8 [.i (v0.length:Int)] rfl (fp.n rfl rfl) (.ite H rfl (λH=>?_) (λH=>?_))
  ·obtain ⟨cH,H⟩:=aq H;obtain ⟨y1,cQ,H⟩:=ae H;refine .A 24 [.d (.ro (aa.row (nth v0 sb.toNat))),.r 2,.i y1] rfl ⟨rfl,rfl,λhg=>av (en 99 rfl) rfl rfl (oD (ba cQ hg)),rfl,fp.ix rfl rfl rfl cH⟩ (.ite H rfl (λH=>?_) (λH=>?_))
   ·refine .A 6 [.d (.agg (aa.row kq6))] rfl (aK.g (bh xC ei fm rfl rfl)) (.R func147 results147 rfl ?_);cases H;cases bu;exact .m rfl (.kV rfl)
   ·obtain ⟨cY,dW,H⟩:=ck2 H;obtain ⟨y2,fD,H⟩:=ae H;refine .A 61 [.i (fh+((nth v0 sb.toNat).cU)),.d (.ro (aa.row (nth v0 (Int.toNat (0))))),.r 3,.b y2,.b ((nth v0 sb.toNat).bS != (nth v0 (Int.toNat (0))).bS)] rfl ⟨rfl,λhg=>aK.g (DZ rfl underlying4 rfl),rfl,rfl,rfl,rfl,rfl,rfl,rfl,rfl,rfl,rfl,rfl,rfl,rfl,rfl,rfl,rfl,rfl,rfl,rfl,rfl,rfl,rfl,rfl,rfl,av (en 98 rfl) rfl rfl (Bi fD),fp.ix rfl rfl rfl dW,aG rfl rfl cY⟩ (.ite H rfl (λH=>?_) (λH=>?_))
    ·refine .A 6 [.d (.agg (aa.row kq6))] rfl (aK.g (bh xC ei fm rfl rfl)) (.R func147 results147 rfl ?_);cases H;cases bu;exact .m rfl (.kV rfl)
    ·obtain ⟨y3,ju,H⟩:=ae H;refine .A 33 [.i y3] rfl (av (en 99 rfl) rfl rfl (oD ju)) (.ite H rfl (λH=>?_) (λH=>?_))
     ·refine .A 6 [.d (.agg (aa.row kq6))] rfl (aK.g (bh xC ei fm rfl rfl)) (.R func147 results147 rfl ?_);cases H;cases bu;exact .m rfl (.kV rfl)
     ·obtain ⟨gC,H⟩:=aq H;refine .A 7 [.i (sb+1)] rfl (aG rfl rfl gC) ?_;cases H;exact .t 2 0 bu rfl rfl rfl rfl rfl hS rfl
  ·refine .E 1 rfl ?_;obtain ⟨q0,H9,lz⟩:=bR H;clear H;cases lz;cases bu;have H:=H9;exact .z (eX (cw,pL,pM,Ch,Ci,pD,fh,yw,yx) H) rfl rfl
theorem vH {aA:List aa} {r:aa×Bool} (H:kx aA=some r):aD prog 107 [ai 12 aa.row aA] (·=.dV [.agg (aa.row r.1),cB r.2]):=by
 obtain ⟨i58,ei,fm,e9,qd⟩:=gG;refine aD.bc func107 rfl ntmps107 rfl λS hS=>?_
 unfold kx at H;refine .A 10 [.r 0] rfl trivial (.bH (ι:=Unit) (λ_=>[(0,.d (ai 12 aa.row aA)),(2,.ref 0 0)]) (λ_=>⟨[.row 58 [.d (cI 0),.d (cI 0),.d (cI 0),.d (cS ([]:List UInt8)),.d (cS ([]:List UInt8)),.d (cI 0),.d (cI 0),.d (cI 0),.d (cI 0),.d (cB false),.d (cI 0),.d (cB false)]],[]⟩) (λs=>jE aA=some r) ?_ ?_)
 ·rintro _ H;replace H:jE aA=some r:=H;unfold jE at H;obtain ⟨y1,cQ,H⟩:=ae H;refine .A 9 [.d (.dV [.agg (aa.row y1.1),cB y1.2])] rfl (av (en 100 rfl) rfl rfl (Gf cQ)) (.R func107 results107 rfl ?_);cases H;exact .m rfl (.kV rfl)
 ·intro p7 eX;refine .lp H (λbO=>[(0,.d (ai 12 aa.row aA)),(2,.ref 0 0),(4,.d (cI bO))]) (λbO=>⟨[.row 58 [.d (cI 0),.d (cI 0),.d (cI 0),.d (cS ([]:List UInt8)),.d (cS ([]:List UInt8)),.d (cI 0),.d (cI 0),.d (cI 0),.d (cI 0),.d (cB false),.d (cI 0),.d (cB false)]],[]⟩) (.k3 rfl rfl rfl (.nil)) rfl ?_;rintro bO q1 H bu;unfold l9 at H;refine .A 8 [.i (aA.length:Int)] rfl (fp.n rfl rfl) (.ite H rfl (λH=>?_) (λH=>?_))
  ·obtain ⟨cH,cY,dW,gC,H⟩:=ck4 H;refine .A 27 [.d (.ro (aa.row (nth aA bO.toNat))),.i (bO+1),.d (.ro (aa.row (nth aA bO.toNat))),.i (bO+1),.i (aA.length:Int),.b ((nth aA bO.toNat).last != ((bO+1)==(aA.length:Int)))] rfl ⟨rfl,λhg=>aK.g (DZ rfl underlying4 rfl),rfl,rfl,rfl,rfl,λhg=>fp.n rfl rfl,rfl,λhg=>aG rfl rfl (gC hg),rfl,rfl,rfl,λhg=>fp.ix rfl rfl rfl (dW hg),rfl,rfl,aG rfl rfl cY,fp.ix rfl rfl rfl cH⟩ (.ite H rfl (λH=>?_) (λH=>?_))
   ·refine .A 6 [.d (.agg (aa.row kq6))] rfl (aK.g (bh xC ei fm rfl rfl)) (.R func107 results107 rfl ?_);cases H;cases bu;exact .m rfl (.kV rfl)
   ·obtain ⟨j5,H⟩:=aq H;refine .A 7 [.i (bO+1)] rfl (aG rfl rfl j5) ?_;cases H;exact .z bu rfl rfl
  ·refine .E 1 rfl ?_;obtain ⟨q0,H9,lz⟩:=bR H;clear H;cases lz;cases bu;have H:=H9;exact .z (eX () H) rfl rfl
theorem IB {v0:List aa} {r:Bool} (H:tp v0=some r):aD prog 60 [ai 12 aa.row v0] (·=cB r):=by
 refine aD.bc func60 rfl ntmps60 rfl λS hS=>?_
 unfold tp at H;refine .E 9 rfl (.bH (ι:=Unit) (λ_=>[(0,.d (ai 12 aa.row v0))]) (λ_=>⟨[],[]⟩) (λs=>lN v0=some r) ?_ ?_)
 ·rintro _ H;replace H:lN v0=some r:=H;unfold lN at H;refine .E 6 rfl (.lp H (λDi=>[(0,.d (ai 12 aa.row v0)),(4,.d (cI Di))]) (λDi=>⟨[],[]⟩) (.k2 rfl rfl (.nil)) rfl ?_);rintro Di q1 H bu;unfold q9 at H;refine .A 8 [.i (v0.length:Int)] rfl (fp.n rfl rfl) (.ite H rfl (λH=>?_) (λH=>?_))
  ·obtain ⟨cH,H⟩:=aq H;obtain ⟨y1,cQ,H⟩:=ae H;obtain ⟨y2,fD,H⟩:=ae H;obtain ⟨y3,ju,H⟩:=ae H;refine .A 34 [.d (.ro (aa.row (nth v0 Di.toNat))),.d (ai 1 rI y1),.d (.dV [ai 12 aa.row y2.1,ai 12 aa.row y2.2]),.d (.dV [.agg (aa.row y3.1),cB y3.2]),.r 0] rfl ⟨av (en 101 rfl) rfl rfl (vH ju),av (en 102 rfl) rfl rfl (Bj fD),av (en 103 rfl) rfl rfl (xW cQ),fp.ix rfl rfl rfl cH⟩ (.ite H rfl (λH=>?_) (λH=>?_))
   ·refine .E 4 rfl (.R func60 results60 rfl ?_);cases H;cases bu;exact .m rfl (.ak _)
   ·obtain ⟨cY,H⟩:=aq H;refine .A 7 [.i (Di+1)] rfl (aG rfl rfl cY) ?_;cases H;exact .t 0 0 bu rfl rfl rfl rfl rfl hS rfl
  ·refine .E 5 rfl (.R func60 results60 rfl ?_);cases H;cases bu;exact .m rfl (.ak _)
 ·intro p7 eX;obtain ⟨n2,H⟩:=fq H;refine .loop (ι:=Nat×(Int)) (λ⟨_,lH⟩=>[(0,.d (ai 12 aa.row v0)),(3,.d (cI lH))]) (λ⟨_,lH⟩=>⟨[],[]⟩) (λp=>iter (λs=>jU v0 s) p.1 p.2=some r) (·.1) (n2,0) H (.k2 rfl rfl (.nil)) rfl ?_
  rintro ⟨m1,lH⟩ HI EW;obtain ⟨n1,q1,tW,H,bu⟩:=ft HI;clear HI;replace H:jU v0 lH=some q1:=H;unfold jU at H;refine .A 8 [.i (v0.length:Int)] rfl (fp.n rfl rfl) (.ite H rfl (λH=>?_) (λH=>?_))
  ·obtain ⟨dW,gC,H⟩:=ck2 H;obtain ⟨y4,nU,H⟩:=ae H;obtain ⟨j5,pb,uS,H⟩:=ck3 H;obtain ⟨y5,uR,H⟩:=ae H;refine .C 33 [.p 30,.d (.ro (aa.row (nth v0 lH.toNat))),.d (.ro (aa.row (nth v0 lH.toNat))),.i y4,.d (.ro (aa.row (nth v0 lH.toNat))),.i (lH-1),.d (.ro (aa.row (nth v0 (lH-1).toNat))),.b y5] rfl ⟨λhg=>av (en 104 rfl) rfl rfl (xV (ba uR hg)),rfl,rfl,rfl,λhg=>fp.ix rfl rfl rfl (uS hg),rfl,rfl,λhg=>gF rfl rfl (pb hg),rfl,rfl,λhg=>fp.ix rfl rfl rfl (j5 hg),rfl,rfl,rfl,rfl,rfl,rfl,λhg=>av (en 99 rfl) rfl rfl (oD (ba nU hg)),rfl,rfl,λhg=>fp.ix rfl rfl rfl (gC hg),rfl,rfl,fp.ix rfl rfl rfl dW,(show cr _ _=true by kernel_rfl)⟩ (.gE (env':=[(32,_),(42,_)]) rfl rfl rfl ⟨.inr (.inl rfl),⟨.inr (.inr ⟨_,_,rfl,rfl⟩),trivial⟩⟩ rfl (λhg=>aK.g (dv rfl rfl rfl)) (.A 3 [] rfl rfl (.ite H rfl (λH=>?_) (λH=>?_))))
   ·refine .E 4 rfl (.R func60 results60 rfl ?_);cases H;cases bu;exact .m rfl (.ak _)
   ·obtain ⟨yS,H⟩:=aq H;refine .A 7 [.i (lH+1)] rfl (aG rfl rfl yS) ?_;cases H;exact .z (EW (n1,(lH+1)) bu tW) rfl rfl
  ·refine .E 1 rfl ?_;obtain ⟨q0,H9,lz⟩:=bR H;clear H;cases lz;cases bu;have H:=H9;exact .z (eX () H) rfl rfl
theorem Dw {v0:aF} {r:Bool} (H:oq v0=some r):aD prog 61 [.agg (aF.row v0)] (·=cB r):=by
 refine aD.bc func61 rfl ntmps61 rfl λS hS=>?_
 unfold oq at H;refine .A 11 [.r 0] rfl trivial (.lp H (λbI=>[(1,.ref 0 0),(3,.d (cI bI))]) (λbI=>⟨[aF.o26 v0],[]⟩) (.k2 rfl rfl (.nil)) rfl ?_);rintro bI q1 H bu;unfold qF at H;refine .E 6 rfl (.ite H rfl (λH=>?_) (λH=>?_))
 ·refine .E 12 rfl (.bH (ι:=Int) (λB8=>[(1,.ref 0 0),(3,.d (cI bI)),(4,.d (cI B8))]) (λB8=>⟨[aF.o26 v0],[]⟩) (λs=>iJ v0 bI s=some q1) ?_ ?_)
  ·rintro B8 H;replace H:iJ v0 bI B8=some q1:=H;unfold iJ at H;refine .E 5 rfl (.bH (ι:=Int) (λOP=>[(1,.ref 0 0),(3,.d (cI bI)),(4,.d (cI OP))]) (λOP=>⟨[aF.o26 v0],[]⟩) (λs=>kz bI s=some q1) ?_ ?_)
   ·rintro OP H;replace H:kz bI OP=some q1:=H;unfold kz at H;refine .E 5 rfl (.ite H rfl (λH=>?_) (λH=>?_))
    ·refine .E 4 rfl (.R func61 results61 rfl ?_);cases H;cases bu;exact .m rfl (.ak _)
    ·obtain ⟨cH,H⟩:=aq H;refine .A 7 [.i (bI+1)] rfl (aG rfl rfl cH) ?_;cases H;exact .z bu rfl rfl
   ·intro A8 Mr;refine .lp H (λ⟨FZ,oV⟩=>[(1,.ref 0 0),(3,.d (cI bI)),(4,.d (cI FZ)),(6,.d (cI oV))]) (λ⟨FZ,oV⟩=>⟨[aF.o26 v0],[]⟩) (.k4 rfl rfl rfl rfl (.nil)) rfl ?_;rintro ⟨FZ,oV⟩ q2 H BK
    dsimp only at H
    unfold nt at H;refine .A 9 [.i (v0.aO.length:Int)] rfl (BI.n rfl rfl) (.ite H rfl (λH=>?_) (λH=>?_))
    ·obtain ⟨cY,H⟩:=aq H;refine .A 14 [.d (.ro (Head.row (nth v0.aO oV.toNat)))] rfl (BI.ix rfl rfl rfl cY) (.ite H rfl (λH=>?_) (λH=>?_))
     ·obtain ⟨dW,gC,j5,H⟩:=ck3 H;refine .A 17 [.d (.ro (Head.row (nth v0.aO oV.toNat))),.i (FZ-((nth v0.aO oV.toNat).count)),.i (oV+1)] rfl ⟨aG rfl rfl j5,gF rfl rfl gC,BI.ix rfl rfl rfl dW⟩ ?_;cases H;exact .z BK rfl rfl
     ·obtain ⟨pb,H⟩:=aq H;refine .A 7 [.i (oV+1)] rfl (aG rfl rfl pb) ?_;cases H;exact .z BK rfl rfl
    ·refine .E 1 rfl ?_;obtain ⟨q0,H9,lz⟩:=bR H;clear H;cases lz;cases BK;have H:=H9;exact .z (Mr FZ H) rfl rfl
  ·intro p7 eX;obtain ⟨n3,H⟩:=fq H;refine .loop (ι:=Nat×(Int×Int)) (λ⟨_,Aa,nu⟩=>[(1,.ref 0 0),(3,.d (cI bI)),(4,.d (cI Aa)),(5,.d (cI nu))]) (λ⟨_,Aa,nu⟩=>⟨[aF.o26 v0],[]⟩) (λp=>iter (λs=>gx v0 bI s.1 s.2) p.1 p.2=some q1) (·.1) (n3,(0,0)) H (.k4 rfl rfl rfl rfl (.nil)) rfl ?_
   rintro ⟨m2,Aa,nu⟩ HI ih2;obtain ⟨n2,q2,Sw,H,BK⟩:=ft HI;clear HI;replace H:gx v0 bI Aa nu=some q2:=H;unfold gx at H;refine .A 9 [.i (v0.seen.length:Int)] rfl (wu.n rfl rfl) (.ite H rfl (λH=>?_) (λH=>?_))
   ·obtain ⟨uS,H⟩:=aq H;refine .A 14 [.d (.ro (Range.row (nth v0.seen nu.toNat)))] rfl (wu.ix rfl rfl rfl uS) (.ite H rfl (λH=>?_) (λH=>?_))
    ·obtain ⟨yS,Gb,Af,Iy,Iz,Mp,H⟩:=ck6 H;refine .A 26 [.p 17,.d (.ro (Range.row (nth v0.seen nu.toNat))),.i (Aa+((nth v0.seen nu.toNat).iu)),.d (.ro (Range.row (nth v0.seen nu.toNat))),.i ((Aa+((nth v0.seen nu.toNat).iu)) - (nth v0.seen nu.toNat).from_),.i (((Aa+((nth v0.seen nu.toNat).iu)) - (nth v0.seen nu.toNat).from_)+1),.i (nu+1)] rfl ⟨aG rfl rfl Mp,aG rfl rfl Iz,gF rfl rfl Iy,wu.ix rfl rfl rfl Af,aG rfl rfl Gb,wu.ix rfl rfl rfl yS,(show cr _ _=true by kernel_rfl)⟩ ?_;cases H;exact .z (ih2 (n2,(((Aa+((nth v0.seen nu.toNat).iu)) - (nth v0.seen nu.toNat).from_)+1,nu+1)) BK Sw) rfl rfl
    ·obtain ⟨Mq,H⟩:=aq H;refine .A 7 [.i (nu+1)] rfl (aG rfl rfl Mq) ?_;cases H;exact .z (ih2 (n2,(Aa,nu+1)) BK Sw) rfl rfl
   ·refine .E 1 rfl ?_;obtain ⟨q0,H9,lz⟩:=bR H;clear H;cases lz;cases BK;have H:=H9;exact .z (eX Aa H) rfl rfl
 ·refine .E 5 rfl (.R func61 results61 rfl ?_);cases H;cases bu;exact .m rfl (.ak _)
theorem xX {aU:List Range} {bF cF:Int} {r:Bool} (H:qG aU bF cF=some r):aD prog 34 [ai 3 Range.row aU,cI bF,cI cF] (·=cB r):=by
 refine aD.bc func34 rfl ntmps34 rfl λS hS=>?_
 unfold qG at H;refine .E 10 rfl (.lp H (λeo=>[(0,.d (ai 3 Range.row aU)),(1,.d (cI bF)),(2,.d (cI cF)),(7,.d (cI eo))]) (λeo=>⟨[],[]⟩) (.k4 rfl rfl rfl rfl (.nil)) rfl ?_);rintro eo q1 H bu;unfold sJ at H;refine .A 8 [.i (aU.length:Int)] rfl (wu.n rfl rfl) (.ite H rfl (λH=>?_) (λH=>?_))
 ·obtain ⟨cH,cY,dW,H⟩:=ck3 H;refine .A 31 [.d (.ro (Range.row (nth aU eo.toNat))),.d (.ro (Range.row (nth aU eo.toNat))),.d (.ro (Range.row (nth aU eo.toNat)))] rfl ⟨rfl,rfl,rfl,rfl,rfl,λhg=>wu.ix rfl rfl rfl (dW hg),rfl,rfl,rfl,rfl,rfl,rfl,rfl,λhg=>wu.ix rfl rfl rfl (cY hg),rfl,rfl,wu.ix rfl rfl rfl cH⟩ (.ite H rfl (λH=>?_) (λH=>?_))
  ·obtain ⟨y1,cQ,H⟩:=ae H;refine .A 7 [.b y1] rfl (av (en 94 rfl) rfl rfl (nB cQ)) (.R func34 results34 rfl ?_);cases H;cases bu;exact .m rfl (.ak _)
  ·obtain ⟨gC,H⟩:=aq H;refine .A 7 [.i (eo+1)] rfl (aG rfl rfl gC) ?_;cases H;exact .z bu rfl rfl
 ·refine .E 5 rfl (.R func34 results34 rfl ?_);cases H;cases bu;exact .m rfl (.ak _)
theorem Gg {v0:aF} {r:Bool} (H:rG v0=some r):aD prog 31 [.agg (aF.row v0)] (·=cB r):=by
 refine aD.bc func31 rfl ntmps31 rfl λS hS=>?_
 unfold rG at H;obtain ⟨y1,cQ,H⟩:=ae H;obtain ⟨y2,fD,H⟩:=ae H;obtain ⟨y3,ju,H⟩:=ae H;obtain ⟨y4,nU,H⟩:=ae H;refine .A 29 [.r 0,.b y1,.b y2,.b y3,.b y4] rfl ⟨rfl,rfl,λhg=>av (en 105 rfl) rfl rfl (Dw (ba nU hg)),rfl,rfl,rfl,λhg=>av (en 106 rfl) rfl rfl (IB (ba ju hg)),rfl,rfl,rfl,rfl,λhg=>av (en 107 rfl) rfl rfl (Ge (ba fD hg)),rfl,rfl,av (en 108 rfl) rfl rfl (Gd cQ)⟩ (.ite H rfl (λH=>?_) (λH=>?_))
 ·refine .E 4 rfl (.R func31 results31 rfl ?_);cases H;exact .m rfl (.ak _)
 ·refine .E 7 rfl (.lp H (λbI=>[(1,.ref 0 0),(3,.d (cI bI))]) (λbI=>⟨[aF.o26 v0],[]⟩) (.k2 rfl rfl (.nil)) rfl ?_);rintro bI q1 H bu;unfold mG at H;refine .A 9 [.i (v0.open_.length:Int)] rfl (fp.n rfl rfl) (.ite H rfl (λH=>?_) (λH=>?_))
  ·obtain ⟨cH,H⟩:=aq H;obtain ⟨y5,uR,H⟩:=ae H;refine .A 25 [.d (.ro (aa.row (nth v0.open_ bI.toNat))),.r 1,.b y5] rfl ⟨av (en 109 rfl) rfl rfl (xX uR),fp.ix rfl rfl rfl cH⟩ (.ite H rfl (λH=>?_) (λH=>?_))
   ·refine .E 4 rfl (.R func31 results31 rfl ?_);cases H;cases bu;exact .m rfl (.ak _)
   ·refine .E 6 rfl (.lp H (λxG=>[(1,.ref 0 0),(3,.d (cI bI)),(4,.ref 1 0),(5,.d (cI xG))]) (λxG=>⟨[aF.o26 v0,aa.o58 (nth v0.open_ bI.toNat)],[]⟩) (.k4 rfl rfl rfl rfl (.nil)) rfl ?_);rintro xG q2 H BK;unfold mF at H;refine .E 7 rfl (.ite H rfl (λH=>?_) (λH=>?_))
    ·obtain ⟨cY,dW,H⟩:=ck2 H;refine .A 27 [.p 20,.d (.ro (aa.row (nth v0.open_ xG.toNat))),.d (.ro (aa.row (nth v0.open_ xG.toNat)))] rfl ⟨rfl,rfl,rfl,rfl,rfl,rfl,λhg=>fp.ix rfl rfl rfl (dW hg),rfl,rfl,rfl,fp.ix rfl rfl rfl cY,(show cr _ _=true by kernel_rfl)⟩ (.ite H rfl (λH=>?_) (λH=>?_))
     ·refine .E 4 rfl (.R func31 results31 rfl ?_);cases H;cases BK;cases bu;exact .m rfl (.ak _)
     ·obtain ⟨gC,H⟩:=aq H;refine .A 7 [.i (xG+1)] rfl (aG rfl rfl gC) ?_;cases H;exact .z BK rfl rfl
    ·obtain ⟨j5,H⟩:=aq H;refine .A 7 [.i (bI+1)] rfl (aG rfl rfl j5) ?_;cases H;cases BK;exact .t 1 0 bu rfl rfl rfl rfl rfl hS rfl
  ·refine .E 5 rfl (.R func31 results31 rfl ?_);cases H;cases bu;exact .m rfl (.ak _)
theorem EZ {uM:aC} {r:aa} (H:sK uM=some r):aD prog 62 [.agg (aC.row uM)] (·=.agg (aa.row r)):=by
 obtain ⟨i58,ei,fm,e9,qd⟩:=gG;refine aD.bc func62 rfl ntmps62 rfl λS hS=>?_
 unfold sK at H;refine .A 28 [.r 0,.r 1,.d (.agg (aa.row (⟨uM.source,uM.aI,uM.kind,uM.a,uM.b,uM.start,uM.cU,0,0,false,uM.c9,uM.bS⟩:aa)))] rfl (aK.g (bh xC ei fm rfl (by kernel_rfl))) (.R func62 results62 rfl ?_);cases H;exact .m rfl (.ak _)
theorem Dx {df:aj} {r:(List aa)} (H:ot df=some r):aD prog 32 [.agg (aj.row df)] (·=ai 12 aa.row r):=by
 obtain ⟨i58,ei,fm,e9,qd⟩:=gG;refine aD.bc func32 rfl ntmps32 rfl λS hS=>?_
 unfold ot at H;refine .A 14 [.r 0] rfl trivial (.tok (i:=3) (e:=58) (sz:=12) rfl (.bH (ι:=List aa) (λpN=>[(1,.ref 0 0),(3,.cz 12 (pN.map aa.row) 0)]) (λpN=>⟨[aj.o30 df],[bo pN.length]⟩) (λs=>kA df s=some r) ?_ ?_))
 ·rintro pN H;replace H:kA df pN=some r:=H;unfold kA at H;obtain ⟨cH,cY,H⟩:=ck2 H;refine .A 22 [.a 0 58 12 aa.row (pN++df.aS),.a 0 58 12 aa.row ((pN++df.aS)++df.aH.open_)] rfl ⟨fp.a rfl rfl rfl rfl cY,fp.a rfl rfl rfl rfl cH⟩ (.R func32 results32 rfl ?_);cases H;exact .m rfl (.cz _ _ _)
 ·intro p7 eX;refine .lp H (λ⟨ra,bO⟩=>[(1,.ref 0 0),(3,.cz 12 (ra.map aa.row) 0),(4,.d (cI bO))]) (λ⟨ra,bO⟩=>⟨[aj.o30 df],[bo ra.length]⟩) (.k3 rfl rfl rfl (.nil)) rfl ?_;rintro ⟨ra,bO⟩ q1 H bu
  dsimp only at H
  unfold kB at H;refine .A 9 [.i (df.usages.length:Int)] rfl (B5.n rfl rfl) (.ite H rfl (λH=>?_) (λH=>?_))
  ·obtain ⟨dW,H⟩:=aq H;obtain ⟨y1,cQ,H⟩:=ae H;obtain ⟨gC,j5,H⟩:=ck2 H;refine .A 21 [.d (.ro (aC.row (nth df.usages bO.toNat))),.d (.agg (aa.row y1)),.d (ai 12 aa.row ([y1]:List aa)),.a 0 58 12 aa.row (ra++([y1]:List aa)),.i (bO+1)] rfl ⟨aG rfl rfl j5,fp.a rfl rfl rfl rfl gC,aT underlying23 ei e9 fm rfl rfl rfl rfl rfl,av (en 110 rfl) rfl rfl (EZ cQ),B5.ix rfl rfl rfl dW⟩ ?_;cases H;exact .z bu rfl rfl
  ·refine .E 1 rfl ?_;obtain ⟨q0,H9,lz⟩:=bR H;clear H;cases lz;cases bu;have H:=H9;exact .z (eX ra H) rfl rfl
theorem Gh {aU:List Range} {r:Int} (H:rH aU=some r):aD prog 44 [ai 3 Range.row aU] (·=cI r):=by
 refine aD.bc func44 rfl ntmps44 rfl λS hS=>?_
 unfold rH at H;refine .E 14 rfl (.lp H (λ⟨om,bO⟩=>[(0,.d (ai 3 Range.row aU)),(3,.d (cI om)),(4,.d (cI bO))]) (λ⟨om,bO⟩=>⟨[],[]⟩) (.k3 rfl rfl rfl (.nil)) rfl ?_);rintro ⟨om,bO⟩ q1 H bu
 dsimp only at H
 unfold mH at H;refine .A 8 [.i (aU.length:Int)] rfl (wu.n rfl rfl) (.ite H rfl (λH=>?_) (λH=>?_))
 ·obtain ⟨cH,cY,dW,gC,j5,pb,H⟩:=ck6 H;refine .A 27 [.p 15,.d (.ro (Range.row (nth aU bO.toNat))),.i (om+((nth aU bO.toNat).iu)),.d (.ro (Range.row (nth aU bO.toNat))),.i ((om+((nth aU bO.toNat).iu)) - (nth aU bO.toNat).from_),.i (((om+((nth aU bO.toNat).iu)) - (nth aU bO.toNat).from_)+1),.i (bO+1)] rfl ⟨aG rfl rfl pb,aG rfl rfl j5,gF rfl rfl gC,wu.ix rfl rfl rfl dW,aG rfl rfl cY,wu.ix rfl rfl rfl cH,(show cr _ _=true by kernel_rfl)⟩ ?_;cases H;exact .z bu rfl rfl
 ·refine .E 6 rfl (.R func44 results44 rfl ?_);cases H;cases bu;exact .m rfl (.ak _)
theorem Dy {df:aj} {r:bV} (H:ou df=some r):aD prog 14 [.agg (aj.row df)] (·=.agg (bV.row r)):=by
 obtain ⟨i34,OY,OZ,Zc,Zd⟩:=Qp;refine aD.bc func14 rfl ntmps14 rfl λS hS=>?_
 unfold ou at H;refine .A 29 [.r 0,.r 1,.i (df.usages.length:Int),.i (df.bA.length:Int),.i (df.aS.length:Int),.i (df.aH.open_.length:Int),.d (.agg (bV.row (⟨0,(df.usages.length:Int),0,(df.bA.length:Int),(df.aS.length:Int),(df.aH.open_.length:Int)⟩:bV))),.r 2] rfl ⟨aK.g (bh No OY OZ rfl rfl),fp.n rfl rfl,fp.n rfl rfl,Ic.n rfl rfl,B5.n rfl rfl⟩ (.bH (ι:=Int) (λqB=>[(1,.ref 0 0),(2,.ref 1 0),(3,.ref 2 0)]) (λqB=>⟨[aj.o30 df,.row 34 [.d (cI 0),.d (cI 0),.d (cI 0),.d (cI 0),.d (cI 0),.d (cI 0)],.row 34 [.d (cI qB),.d (cI (df.usages.length:Int)),.d (cI 0),.d (cI (df.bA.length:Int)),.d (cI (df.aS.length:Int)),.d (cI (df.aH.open_.length:Int))]],[]⟩) (λs=>kC df s=some r) ?_ ?_)
 ·rintro qB H;replace H:kC df qB=some r:=H;unfold kC at H;obtain ⟨y1,cQ,H⟩:=ae H;obtain ⟨cH,cY,dW,H⟩:=ck3 H;refine let z0:=((y1-(df.usages.length:Int)) - (df.aS.length:Int));.A 24 [.p 14,.i y1,.i (y1-(df.usages.length:Int)),.i z0,.i (z0 - (df.aH.open_.length:Int))] rfl ⟨gF rfl rfl dW,gF rfl rfl cY,gF rfl rfl cH,av (en 111 rfl) rfl rfl (Gh cQ),(show cr _ _=true by kernel_rfl)⟩ ?_;refine .R func14 results14 rfl ?_;cases H;exact .m rfl (.ak _)
 ·intro p7 eX;refine .lp H (λ⟨bO,bQ⟩=>[(1,.ref 0 0),(2,.ref 1 0),(3,.ref 2 0),(4,.d (cI bO))]) (λ⟨bO,bQ⟩=>⟨[aj.o30 df,.row 34 [.d (cI 0),.d (cI 0),.d (cI 0),.d (cI 0),.d (cI 0),.d (cI 0)],.row 34 [.d (cI bQ),.d (cI (df.usages.length:Int)),.d (cI 0),.d (cI (df.bA.length:Int)),.d (cI (df.aS.length:Int)),.d (cI (df.aH.open_.length:Int))]],[]⟩) (.k4 rfl rfl rfl rfl (.nil)) rfl ?_;rintro ⟨bO,bQ⟩ q1 H bu
  dsimp only at H
  unfold kD at H;refine .A 10 [.i (df.aH.aO.length:Int)] rfl (BI.n rfl rfl) (.ite H rfl (λH=>?_) (λH=>?_))
  ·obtain ⟨gC,j5,pb,H⟩:=ck3 H;refine .A 24 [.p 11,.d (.ro (Head.row (nth df.aH.aO bO.toNat))),.i (bQ+((nth df.aH.aO bO.toNat).count)),.i (bO+1)] rfl ⟨aG rfl rfl pb,aG rfl rfl j5,BI.ix rfl rfl rfl gC,(show cr _ _=true by kernel_rfl)⟩ ?_;cases H;exact .z bu rfl rfl
  ·refine .E 1 rfl ?_;obtain ⟨q0,H9,lz⟩:=bR H;clear H;cases lz;cases bu;have H:=H9;exact .z (eX bQ H) rfl rfl
theorem Gi {v0:aj} {r:Bool} (H:rJ v0=some r):aD prog 11 [.agg (aj.row v0)] (·=cB r):=by
 refine aD.bc func11 rfl ntmps11 rfl λS hS=>?_
 unfold rJ at H;obtain ⟨y1,cQ,H⟩:=ae H;refine .A 13 [.r 0,.b y1] rfl (av (en 112 rfl) rfl rfl (Gg cQ)) (.ite H rfl (λH=>?_) (λH=>?_))
 ·refine .E 4 rfl (.R func11 results11 rfl ?_);cases H;exact .m rfl (.ak _)
 ·refine .E 6 rfl (.bH (ι:=Unit) (λ_=>[(1,.ref 0 0)]) (λ_=>⟨[aj.o30 v0],[]⟩) (λs=>kJ v0=some r) ?_ ?_)
  ·rintro _ H;replace H:kJ v0=some r:=H;unfold kJ at H;refine .E 5 rfl (.bH (ι:=Unit) (λ_=>[(1,.ref 0 0)]) (λ_=>⟨[aj.o30 v0],[]⟩) (λs=>kH v0=some r) ?_ ?_)
   ·rintro _ H;replace H:kH v0=some r:=H;unfold kH at H;refine .E 5 rfl (.bH (ι:=Unit) (λ_=>[(1,.ref 0 0)]) (λ_=>⟨[aj.o30 v0],[]⟩) (λs=>kF v0=some r) ?_ ?_)
    ·rintro _ H;replace H:kF v0=some r:=H;unfold kF at H;obtain ⟨y2,fD,H⟩:=ae H;refine .A 11 [.d (ai 12 aa.row y2)] rfl (av (en 113 rfl) rfl rfl (Dx fD)) (.bH (ι:=Unit) (λ_=>[(1,.ref 0 0)]) (λ_=>⟨[aj.o30 v0],[]⟩) (λs=>kE v0=some r) ?_ ?_)
     ·rintro _ H;replace H:kE v0=some r:=H;unfold kE at H;obtain ⟨y3,ju,H⟩:=ae H;obtain ⟨cH,cY,dW,gC,H⟩:=ck4 H;refine .A 33 [.d (.agg (bV.row y3)),.r 1,.i (y3.accepted+y3.merged),.i ((y3.accepted+y3.merged)+y3.rejected),.i (((y3.accepted+y3.merged)+y3.rejected)+y3.bL),.i ((((y3.accepted+y3.merged)+y3.rejected)+y3.bL)+y3.open_)] rfl ⟨rfl,rfl,rfl,λhg=>aG rfl rfl (gC hg),rfl,rfl,rfl,λhg=>aG rfl rfl (dW hg),rfl,rfl,rfl,λhg=>aG rfl rfl (cY hg),rfl,rfl,rfl,λhg=>aG rfl rfl (cH hg),rfl,rfl,rfl,rfl,rfl,av (en 114 rfl) rfl rfl (Dy ju)⟩ (.R func11 results11 rfl ?_);cases H;exact .m rfl (.ak _)
     ·intro Xv hj4x;refine .lp H (λaZ=>[(1,.ref 0 0),(7,.d (ai 12 aa.row y2)),(8,.d (cI aZ))]) (λaZ=>⟨[aj.o30 v0],[]⟩) (.k3 rfl rfl rfl (.nil)) rfl ?_;rintro aZ q1 H bu;unfold pO at H;refine .A 8 [.i (y2.length:Int)] rfl (fp.n rfl rfl) (.ite H rfl (λH=>?_) (λH=>?_))
      ·obtain ⟨j5,H⟩:=aq H;obtain ⟨y4,nU,H⟩:=ae H;obtain ⟨pb,uS,H⟩:=ck2 H;obtain ⟨y5,uR,H⟩:=ae H;refine .A 31 [.p 23,.d (.ro (aa.row (nth y2 aZ.toNat))),.i y4,.d (.ro (aa.row (nth y2 aZ.toNat))),.d (.ro (aa.row (nth y2 aZ.toNat))),.b y5] rfl ⟨rfl,rfl,λhg=>av (en 109 rfl) rfl rfl (xX (ba uR hg)),rfl,rfl,rfl,rfl,rfl,λhg=>fp.ix rfl rfl rfl (uS hg),rfl,rfl,rfl,rfl,λhg=>fp.ix rfl rfl rfl (pb hg),rfl,rfl,rfl,rfl,av (en 99 rfl) rfl rfl (oD nU),fp.ix rfl rfl rfl j5,(show cr _ _=true by kernel_rfl)⟩ (.ite H rfl (λH=>?_) (λH=>?_))
       ·refine .E 4 rfl (.R func11 results11 rfl ?_);cases H;cases bu;exact .m rfl (.ak _)
       ·refine .E 6 rfl (.lp H (λw8=>[(1,.ref 0 0),(7,.d (ai 12 aa.row y2)),(8,.d (cI aZ)),(9,.d (cI w8))]) (λw8=>⟨[aj.o30 v0],[]⟩) (.k4 rfl rfl rfl rfl (.nil)) rfl ?_);rintro w8 q2 H BK;unfold mI at H;refine .E 7 rfl (.ite H rfl (λH=>?_) (λH=>?_))
        ·obtain ⟨yS,Gb,Af,Iy,H⟩:=ck4 H;refine .A 31 [.p 24,.d (.ro (aa.row (nth y2 w8.toNat))),.d (.ro (aa.row (nth y2 aZ.toNat))),.d (.ro (aa.row (nth y2 w8.toNat))),.d (.ro (aa.row (nth y2 aZ.toNat)))] rfl ⟨rfl,rfl,rfl,rfl,rfl,λhg=>fp.ix rfl rfl rfl (Iy hg),rfl,rfl,rfl,rfl,λhg=>fp.ix rfl rfl rfl (Af hg),rfl,rfl,fp.ix rfl rfl rfl Gb,fp.ix rfl rfl rfl yS,(show cr _ _=true by kernel_rfl)⟩ (.ite H rfl (λH=>?_) (λH=>?_))
         ·refine .E 4 rfl (.R func11 results11 rfl ?_);cases H;cases BK;cases bu;exact .m rfl (.ak _)
         ·obtain ⟨Iz,H⟩:=aq H;refine .A 7 [.i (w8+1)] rfl (aG rfl rfl Iz) ?_;cases H;exact .z BK rfl rfl
        ·obtain ⟨Mp,H⟩:=aq H;refine .A 7 [.i (aZ+1)] rfl (aG rfl rfl Mp) ?_;cases H;cases BK;exact .z bu rfl rfl
      ·refine .E 1 rfl ?_;obtain ⟨q0,H9,lz⟩:=bR H;clear H;cases lz;cases bu;have H:=H9;exact .z (hj4x () H) rfl rfl
    ·intro QZ Ww;obtain ⟨n3,H⟩:=fq H;refine .loop (ι:=Nat×(Int)) (λ⟨_,w9⟩=>[(1,.ref 0 0),(6,.d (cI w9))]) (λ⟨_,w9⟩=>⟨[aj.o30 v0],[]⟩) (λp=>iter (λs=>kG v0 s) p.1 p.2=some r) (·.1) (n3,0) H (.k2 rfl rfl (.nil)) rfl ?_
     rintro ⟨m1,w9⟩ HI EW;obtain ⟨n1,q1,tW,H,bu⟩:=ft HI;clear HI;replace H:kG v0 w9=some q1:=H;unfold kG at H;refine .A 9 [.i (v0.bA.length:Int)] rfl (Ic.n rfl rfl) (.ite H rfl (λH=>?_) (λH=>?_))
     ·obtain ⟨Mq,Wo,H⟩:=ck2 H;refine .A 22 [.d (.ro (ag.row (nth v0.bA w9.toNat))),.d (.ro (ag.row (nth v0.bA w9.toNat)))] rfl ⟨rfl,rfl,rfl,rfl,λhg=>Ic.ix rfl rfl rfl (Wo hg),rfl,rfl,rfl,Ic.ix rfl rfl rfl Mq⟩ (.ite H rfl (λH=>?_) (λH=>?_))
      ·refine .E 4 rfl (.R func11 results11 rfl ?_);cases H;cases bu;exact .m rfl (.ak _)
      ·obtain ⟨Wp,H⟩:=aq H;refine .A 7 [.i (w9+1)] rfl (aG rfl rfl Wp) ?_;cases H;exact .z (EW (n1,(w9+1)) bu tW) rfl rfl
     ·refine .E 1 rfl ?_;obtain ⟨q0,H9,lz⟩:=bR H;clear H;cases lz;cases bu;have H:=H9;exact .z (Ww () H) rfl rfl
   ·intro A8 Mr;obtain ⟨n4,H⟩:=fq H;refine .loop (ι:=Nat×(Int)) (λ⟨_,Cj⟩=>[(1,.ref 0 0),(5,.d (cI Cj))]) (λ⟨_,Cj⟩=>⟨[aj.o30 v0],[]⟩) (λp=>iter (λs=>kI v0 s) p.1 p.2=some r) (·.1) (n4,0) H (.k2 rfl rfl (.nil)) rfl ?_
    rintro ⟨m1,Cj⟩ HI EW;obtain ⟨n1,q1,tW,H,bu⟩:=ft HI;clear HI;replace H:kI v0 Cj=some q1:=H;unfold kI at H;refine .A 9 [.i (v0.aS.length:Int)] rfl (fp.n rfl rfl) (.ite H rfl (λH=>?_) (λH=>?_))
    ·obtain ⟨Wq,H⟩:=aq H;refine .A 13 [.d (.ro (aa.row (nth v0.aS Cj.toNat)))] rfl (fp.ix rfl rfl rfl Wq) (.ite H rfl (λH=>?_) (λH=>?_))
     ·refine .E 4 rfl (.R func11 results11 rfl ?_);cases H;cases bu;exact .m rfl (.ak _)
     ·obtain ⟨Wr,H⟩:=aq H;refine .A 7 [.i (Cj+1)] rfl (aG rfl rfl Wr) ?_;cases H;exact .z (EW (n1,(Cj+1)) bu tW) rfl rfl
    ·refine .E 1 rfl ?_;obtain ⟨q0,H9,lz⟩:=bR H;clear H;cases lz;cases bu;have H:=H9;exact .z (Mr () H) rfl rfl
  ·intro p7 eX;obtain ⟨n5,H⟩:=fq H;refine .loop (ι:=Nat×(Int)) (λ⟨_,vu⟩=>[(1,.ref 0 0),(3,.d (cI vu))]) (λ⟨_,vu⟩=>⟨[aj.o30 v0],[]⟩) (λp=>iter (λs=>iZ v0 s) p.1 p.2=some r) (·.1) (n5,0) H (.k2 rfl rfl (.nil)) rfl ?_
   rintro ⟨m1,vu⟩ HI EW;obtain ⟨n1,q1,tW,H,bu⟩:=ft HI;clear HI;replace H:iZ v0 vu=some q1:=H;unfold iZ at H;refine .A 9 [.i (v0.usages.length:Int)] rfl (B5.n rfl rfl) (.ite H rfl (λH=>?_) (λH=>?_))
   ·obtain ⟨Ws,Wu,H⟩:=ck2 H;refine .A 41 [.d (.ro (aC.row (nth v0.usages vu.toNat))),.r 1,.i (vu+1)] rfl ⟨rfl,rfl,rfl,rfl,rfl,rfl,rfl,rfl,rfl,rfl,rfl,rfl,aG rfl rfl Wu,B5.ix rfl rfl rfl Ws⟩ (.ite H rfl (λH=>?_) (λH=>?_))
    ·refine .E 4 rfl (.R func11 results11 rfl ?_);cases H;cases bu;exact .m rfl (.ak _)
    ·obtain ⟨Wv,H⟩:=aq H;refine .A 7 [.i (vu+1)] rfl (aG rfl rfl Wv) ?_;cases H;exact .t 1 0 (EW (n1,(vu+1)) bu tW) rfl rfl rfl rfl rfl hS rfl
   ·refine .E 1 rfl ?_;obtain ⟨q0,H9,lz⟩:=bR H;clear H;cases lz;cases bu;have H:=H9;exact .z (eX () H) rfl rfl
theorem Bl {eh:Int} {r:(List Bool)} (H:qH eh=some r):aD prog 118 [cI eh] (·=.agg [cB (nth r 0),cB (nth r 1),cB (nth r 2),cB (nth r 3),cB (nth r 4)]):=by
 obtain ⟨i4,BJ,R7,DN,T3⟩:=Mb;obtain ⟨i171,E1,E2,hs171,hb171⟩:=VA;refine aD.bc func118 rfl ntmps118 rfl λS hS=>?_
 unfold qH at H;refine .A 15 [.r 0] rfl trivial (.ite H rfl (λH=>?_) (λH=>?_))
 ·refine .A 5 [.d (.agg [cB true,cB false,cB false,cB true,cB true])] rfl (aK.g (oP underlying171 E1 E2 BJ DN rfl rfl)) (.R func118 results118 rfl ?_);cases H;exact .m rfl (.ak _)
 ·refine .E 5 rfl (.ite H rfl (λH=>?_) (λH=>?_))
  ·refine .A 5 [.d (.agg [cB true,cB false,cB false,cB false,cB false])] rfl (aK.g (oP underlying171 E1 E2 BJ DN rfl rfl)) (.R func118 results118 rfl ?_);cases H;exact .m rfl (.ak _)
  ·refine .E 5 rfl (.ite H rfl (λH=>?_) (λH=>?_))
   ·refine .A 5 [.d (.agg [cB true,cB true,cB false,cB true,cB false])] rfl (aK.g (oP underlying171 E1 E2 BJ DN rfl rfl)) (.R func118 results118 rfl ?_);cases H;exact .m rfl (.ak _)
   ·refine .jg (ι:=Bool) (λlf=>[(2,.ref 0 0),(3,.d (cI eh)),(13,.d (cB lf))]) (λlf=>⟨[.row 171 [.d (cB false),.d (cB false),.d (cB false),.d (cB false),.d (cB false)]],[]⟩) (λs=>jW eh s=some r) ?_ ?_
    ·rintro lf H;replace H:jW eh lf=some r:=H;unfold jW at H;refine .ite H rfl (λH=>?_) (λH=>?_)
     ·refine .A 5 [.d (.agg [cB false,cB true,cB true,cB false,cB false])] rfl (aK.g (oP underlying171 E1 E2 BJ DN rfl rfl)) (.R func118 results118 rfl ?_);cases H;exact .m rfl (.ak _)
     ·refine .jg (ι:=Bool) (λG6=>[(2,.ref 0 0),(3,.d (cI eh)),(17,.d (cB G6))]) (λG6=>⟨[.row 171 [.d (cB false),.d (cB false),.d (cB false),.d (cB false),.d (cB false)]],[]⟩) (λs=>iE eh s=some r) ?_ ?_
      ·rintro G6 H;replace H:iE eh G6=some r:=H;unfold iE at H;refine .ite H rfl (λH=>?_) (λH=>?_)
       ·refine .A 5 [.d (.agg [cB false,cB true,cB false,cB true,cB false])] rfl (aK.g (oP underlying171 E1 E2 BJ DN rfl rfl)) (.R func118 results118 rfl ?_);cases H;exact .m rfl (.ak _)
       ·refine .jg (ι:=Bool) (λG5=>[(2,.ref 0 0),(22,.d (cB G5))]) (λG5=>⟨[.row 171 [.d (cB false),.d (cB false),.d (cB false),.d (cB false),.d (cB false)]],[]⟩) (λs=>jV s=some r) ?_ ?_
        ·rintro G5 H;replace H:jV G5=some r:=H;unfold jV at H;refine .ite H rfl (λH=>?_) (λH=>?_)
         ·refine .A 5 [.d (.agg [cB true,cB false,cB false,cB false,cB true])] rfl (aK.g (oP underlying171 E1 E2 BJ DN rfl rfl)) (.R func118 results118 rfl ?_);cases H;exact .m rfl (.ak _)
         ·refine .A 7 [.d (.agg [cB false,cB true,cB false,cB false,cB false])] rfl (aK.g (oP underlying171 E1 E2 BJ DN rfl rfl)) (.R func118 results118 rfl ?_);cases H;exact .m rfl (.ak _)
        ·intro QZ;refine .E 5 rfl (.ite H rfl (λH=>?_) (λH=>?_))
         ·exact .E 1 rfl (.z (QZ (eh==14) H) rfl rfl)
         ·exact .E 4 rfl (.z (QZ (eh==15) H) rfl rfl)
      ·intro A8;refine .E 5 rfl (.ite H rfl (λH=>?_) (λH=>?_))
       ·exact .E 1 rfl (.z (A8 (eh==7) H) rfl rfl)
       ·refine .E 5 rfl (.ite H rfl (λH=>?_) (λH=>?_))
        ·exact .E 1 rfl (.z (A8 (eh==8) H) rfl rfl)
        ·exact .E 4 rfl (.z (A8 (eh==9) H) rfl rfl)
    ·intro p7;refine .E 5 rfl (.ite H rfl (λH=>?_) (λH=>?_))
     ·exact .E 1 rfl (.z (p7 (eh==5) H) rfl rfl)
     ·exact .E 4 rfl (.z (p7 (eh==6) H) rfl rfl)
theorem E3 {yL:Int} {r:Bool} (H:xH yL=some r):aD prog 156 [cI yL] (·=cB r):=by
 refine aD.bc func156 rfl ntmps156 rfl λS hS=>?_
 unfold xH at H;refine .A 14 [] rfl ⟨rfl,rfl⟩ (.R func156 results156 rfl ?_);cases H;exact .m rfl (.ak _)
theorem IC {b8:List UInt8} {r:Bool} (H:tq b8=some r):aD prog 157 [cS b8] (·=cB r):=by
 refine aD.bc func157 rfl ntmps157 rfl λS hS=>?_
 unfold tq at H;obtain ⟨cH,cY,H⟩:=ck2 H;refine .A 26 [.i (b8.length:Int),.i (b8.length:Int),.c (nth b8 (Int.toNat (0))),.b (decide ((nth b8 (Int.toNat (0)))<97)),.c (nth b8 (Int.toNat (0))),.b (decide ((nth b8 (Int.toNat (0))) > 122))] rfl ⟨rfl,λhg=>aK.g (HH (a:=nth b8 (Int.toNat (0))) (b:=122) rfl rfl),rfl,λhg=>aK.g (nY (i:=0) underlying9 rfl rfl (cY hg)),rfl,rfl,λhg=>aK.g (HG (a:=nth b8 (Int.toNat (0))) (b:=97) rfl rfl),rfl,λhg=>aK.g (nY (i:=0) underlying9 rfl rfl (cH hg)),rfl,rfl,rfl,λhg=>aK.g (oN underlying9 rfl),rfl,aK.g (oN underlying9 rfl)⟩ (.ite H rfl (λH=>?_) (λH=>?_))
 ·refine .E 4 rfl (.R func157 results157 rfl ?_);cases H;exact .m rfl (.ak _)
 ·refine .E 7 rfl (.lp H (λbB=>[(0,.d (cS b8)),(3,.d (cI bB))]) (λbB=>⟨[],[]⟩) (.k2 rfl rfl (.nil)) rfl ?_);rintro bB q1 H bu;unfold ov at H;refine .A 8 [.i (b8.length:Int)] rfl (aK.g (oN underlying9 rfl)) (.ite H rfl (λH=>?_) (λH=>?_))
  ·obtain ⟨dW,gC,j5,pb,H⟩:=ck4 H;refine .B 25 [.c (nth b8 bB.toNat),.b (decide ((nth b8 bB.toNat)<97)),.c (nth b8 bB.toNat),.b (decide ((nth b8 bB.toNat) > 122)),.c (nth b8 bB.toNat),.b (decide ((nth b8 bB.toNat)<48)),.c (nth b8 bB.toNat),.b (decide ((nth b8 bB.toNat) > 57))] rfl ⟨λhg=>aK.g (HH (a:=nth b8 bB.toNat) (b:=57) rfl rfl),rfl,λhg=>aK.g (nY (i:=bB) underlying9 rfl rfl (pb hg)),rfl,rfl,rfl,λhg=>aK.g (HG (a:=nth b8 bB.toNat) (b:=48) rfl rfl),rfl,λhg=>aK.g (nY (i:=bB) underlying9 rfl rfl (j5 hg)),rfl,rfl,rfl,λhg=>aK.g (HH (a:=nth b8 bB.toNat) (b:=122) rfl rfl),rfl,λhg=>aK.g (nY (i:=bB) underlying9 rfl rfl (gC hg)),rfl,rfl,aK.g (HG (a:=nth b8 bB.toNat) (b:=97) rfl rfl),aK.g (nY (i:=bB) underlying9 rfl rfl dW)⟩ (.gE (env':=[(43,_),(47,_)]) rfl rfl rfl ⟨.inr (.inl rfl),⟨.inr (.inr ⟨_,_,rfl,rfl⟩),trivial⟩⟩ rfl (λhg=>aK.g (yl rfl rfl rfl)) ?_);obtain ⟨uS,H⟩:=aq H;refine .A 8 [.c (nth b8 bB.toNat),.b ((nth b8 bB.toNat) != 45)] rfl ⟨rfl,λhg=>aK.g (UQ (a:=nth b8 bB.toNat) (b:=45) rfl rfl),rfl,λhg=>aK.g (nY (i:=bB) underlying9 rfl rfl (uS hg)),rfl,rfl,rfl⟩ (.ite H rfl (λH=>?_) (λH=>?_))
   ·refine .E 4 rfl (.R func157 results157 rfl ?_);cases H;cases bu;exact .m rfl (.ak _)
   ·obtain ⟨yS,H⟩:=aq H;refine .A 7 [.i (bB+1)] rfl (aG rfl rfl yS) ?_;cases H;exact .z bu rfl rfl
  ·refine .E 5 rfl (.R func157 results157 rfl ?_);cases H;cases bu;exact .m rfl (.ak _)
theorem Gj {QG:Event} {r:Bool} (H:rK QG=some r):aD prog 158 [.agg (Event.row QG)] (·=cB r):=by
 refine aD.bc func158 rfl ntmps158 rfl λS hS=>?_
 unfold rK at H;refine .A 12 [.r 0] rfl trivial (.ite H rfl (λH=>?_) (λH=>?_))
 ·refine .A 12 [] rfl ⟨rfl,rfl,rfl⟩ (.R func158 results158 rfl ?_);cases H;exact .m rfl (.ak _)
 ·refine .E 8 rfl (.ite H rfl (λH=>?_) (λH=>?_))
  ·refine .A 12 [] rfl ⟨rfl,rfl,rfl⟩ (.R func158 results158 rfl ?_);cases H;exact .m rfl (.ak _)
  ·refine .A 13 [] rfl ⟨rfl,rfl,rfl⟩ (.R func158 results158 rfl ?_);cases H;exact .m rfl (.ak _)
theorem ID {v0:Event} {v1 r:Int} (H:tr v0 v1=some r):aD prog 117 [.agg (Event.row v0),cI v1] (·=cI r):=by
 obtain ⟨i4,BJ,R7,DN,T3⟩:=Mb;refine aD.bc func117 rfl ntmps117 rfl λS hS=>?_
 unfold tr at H;refine .A 17 [.r 0] rfl ⟨rfl,rfl,rfl⟩ (.ite H rfl (λH=>?_) (λH=>?_))
 ·refine .E 4 rfl (.R func117 results117 rfl ?_);cases H;exact .m rfl (.ak _)
 ·refine .A 13 [] rfl ⟨rfl,rfl,rfl⟩ (.ite H rfl (λH=>?_) (λH=>?_))
  ·refine .E 4 rfl (.R func117 results117 rfl ?_);cases H;exact .m rfl (.ak _)
  ·refine .E 9 rfl (.ite H rfl (λH=>?_) (λH=>?_))
   ·refine .E 4 rfl (.R func117 results117 rfl ?_);cases H;exact .m rfl (.ak _)
   ·obtain ⟨y1,cQ,H⟩:=ae H;refine .B 28 [.d (.agg [cB (nth y1 0),cB (nth y1 1),cB (nth y1 2),cB (nth y1 3),cB (nth y1 4)]),.r 1,.g (.ref 1 0),.g (.ref 1 1)] rfl ⟨rfl,rfl,rfl,rfl,rfl,λhg=>aK.g (nX (m:=1) (sz:=1) underlying171 ⟨_,BJ,DN⟩ rfl rfl rfl (by decide)),rfl,rfl,rfl,aK.g (nX (m:=0) (sz:=1) underlying171 ⟨_,BJ,DN⟩ rfl rfl rfl (by decide)),av (en 118 rfl) rfl rfl (Bl cQ)⟩ (.gE (env':=[(41,_),(44,_)]) rfl rfl rfl ⟨.inr (.inl rfl),⟨.inr (.inr ⟨_,_,rfl,rfl⟩),trivial⟩⟩ rfl (λhg=>aK.g (dv rfl rfl rfl)) (.B 9 [.g (.ref 1 2)] rfl ⟨rfl,rfl,rfl,rfl,rfl,λhg=>aK.g (nX (m:=2) (sz:=1) underlying171 ⟨_,BJ,DN⟩ rfl rfl rfl (by decide)),rfl⟩ (.gE (env':=[(51,_),(54,_)]) rfl rfl rfl ⟨.inr (.inl rfl),⟨.inr (.inr ⟨_,_,rfl,rfl⟩),trivial⟩⟩ rfl (λhg=>aK.g (dv rfl rfl rfl)) (.B 9 [.g (.ref 1 3)] rfl ⟨rfl,rfl,rfl,rfl,rfl,λhg=>aK.g (nX (m:=3) (sz:=1) underlying171 ⟨_,BJ,DN⟩ rfl rfl rfl (by decide)),rfl⟩ (.gE (env':=[(61,_),(64,_)]) rfl rfl rfl ⟨.inr (.inl rfl),⟨.inr (.inr ⟨_,_,rfl,rfl⟩),trivial⟩⟩ rfl (λhg=>aK.g (dv rfl rfl rfl)) (.B 9 [.g (.ref 1 4)] rfl ⟨rfl,rfl,rfl,rfl,rfl,λhg=>aK.g (nX (m:=4) (sz:=1) underlying171 ⟨_,BJ,DN⟩ rfl rfl rfl (by decide)),rfl⟩ (.gE (env':=[(71,_),(74,_)]) rfl rfl rfl ⟨.inr (.inl rfl),⟨.inr (.inr ⟨_,_,rfl,rfl⟩),trivial⟩⟩ rfl (λhg=>aK.g (dv rfl rfl rfl)) (.A 2 [] rfl rfl (.ite H rfl (λH=>?_) (λH=>?_))))))))))
    ·refine .E 4 rfl (.R func117 results117 rfl ?_);cases H;exact .m rfl (.ak _)
    ·obtain ⟨y2,fD,H⟩:=ae H;obtain ⟨y3,ju,H⟩:=ae H;refine .B 20 [.g (.ref 1 0),.b y2,.g (.ref 1 1),.b y3] rfl ⟨rfl,λhg=>av (en 119 rfl) rfl rfl (E3 (ba ju hg)),rfl,rfl,rfl,rfl,λhg=>aK.g (nX (m:=1) (sz:=1) underlying171 ⟨_,BJ,DN⟩ rfl rfl rfl (by decide)),rfl,rfl,λhg=>av (en 119 rfl) rfl rfl (E3 (ba fD hg)),rfl,rfl,aK.g (nX (m:=0) (sz:=1) underlying171 ⟨_,BJ,DN⟩ rfl rfl rfl (by decide))⟩ (.gE (env':=[(88,_),(92,_)]) rfl rfl rfl ⟨.inr (.inl rfl),⟨.inr (.inr ⟨_,_,rfl,rfl⟩),trivial⟩⟩ rfl (λhg=>aK.g (dv rfl rfl rfl)) (.A 2 [] rfl rfl (.ite H rfl (λH=>?_) (λH=>?_))))
     ·refine .E 4 rfl (.R func117 results117 rfl ?_);cases H;exact .m rfl (.ak _)
     ·obtain ⟨y4,nU,H⟩:=ae H;refine .B 20 [.g (.ref 1 3),.b y4] rfl ⟨rfl,rfl,rfl,rfl,rfl,rfl,rfl,λhg=>av (en 120 rfl) rfl rfl (IC (ba nU hg)),rfl,rfl,aK.g (nX (m:=3) (sz:=1) underlying171 ⟨_,BJ,DN⟩ rfl rfl rfl (by decide))⟩ (.gE (env':=[(107,_),(110,_)]) rfl rfl rfl ⟨.inr (.inl rfl),⟨.inr (.inr ⟨_,_,rfl,rfl⟩),trivial⟩⟩ rfl (λhg=>aK.g (dv rfl rfl rfl)) (.B 4 [] rfl ⟨rfl,rfl,rfl⟩ (.gE (env':=[(112,_),(115,_)]) rfl rfl rfl ⟨.inr (.inl rfl),⟨.inr (.inr ⟨_,_,rfl,rfl⟩),trivial⟩⟩ rfl (λhg=>aK.g (dv rfl rfl rfl)) (.A 2 [] rfl rfl (.ite H rfl (λH=>?_) (λH=>?_))))))
      ·refine .E 4 rfl (.R func117 results117 rfl ?_);cases H;exact .m rfl (.ak _)
      ·obtain ⟨y5,uR,H⟩:=ae H;refine .A 13 [.g (.ref 1 2),.b y5] rfl ⟨rfl,rfl,λhg=>av (en 96 rfl) rfl rfl (uZ (ba uR hg)),rfl,rfl,aK.g (nX (m:=2) (sz:=1) underlying171 ⟨_,BJ,DN⟩ rfl rfl rfl (by decide))⟩ (.ite H rfl (λH=>?_) (λH=>?_))
       ·refine .E 4 rfl (.R func117 results117 rfl ?_);cases H;exact .m rfl (.ak _)
       ·obtain ⟨y6,Dr,H⟩:=ae H;refine .A 12 [.g (.ref 1 4),.b y6] rfl ⟨rfl,rfl,λhg=>av (en 121 rfl) rfl rfl (Gj (ba Dr hg)),rfl,aK.g (nX (m:=4) (sz:=1) underlying171 ⟨_,BJ,DN⟩ rfl rfl rfl (by decide))⟩ (.ite H rfl (λH=>?_) (λH=>?_))
        ·refine .E 4 rfl (.R func117 results117 rfl ?_);cases H;exact .m rfl (.ak _)
        ·refine .E 5 rfl (.R func117 results117 rfl ?_);cases H;exact .m rfl (.ak _)
theorem si {eO:ah} {vt r:Int} (H:jX eO vt=some r):aD prog 121 [.agg (ah.row eO),cI vt] (·=cI r):=by
 refine aD.bc func121 rfl ntmps121 rfl λS hS=>?_
 unfold jX at H;refine .A 11 [.r 0] rfl trivial (.lp H (λaE=>[(1,.d (cI vt)),(2,.ref 0 0),(5,.d (cI aE))]) (λaE=>⟨[ah.o123 eO],[]⟩) (.k3 rfl rfl rfl (.nil)) rfl ?_);rintro aE q1 H bu;unfold kK at H;refine .A 9 [.i (eO.aJ.length:Int)] rfl (Ie.n rfl rfl) (.ite H rfl (λH=>?_) (λH=>?_))
 ·obtain ⟨cH,H⟩:=aq H;refine .A 14 [.d (.ro (al.n9 (nth eO.aJ aE.toNat)))] rfl (Ie.ix rfl rfl rfl cH) (.ite H rfl (λH=>?_) (λH=>?_))
  ·refine .E 5 rfl (.R func121 results121 rfl ?_);cases H;cases bu;exact .m rfl (.ak _)
  ·obtain ⟨cY,H⟩:=aq H;refine .A 7 [.i (aE+1)] rfl (aG rfl rfl cY) ?_;cases H;exact .z bu rfl rfl
 ·refine .E 5 rfl (.R func121 results121 rfl ?_);cases H;cases bu;exact .m rfl (.ak _)
theorem rV {eO:ah} {vt r:Int} (H:nv eO vt=some r):aD prog 99 [.agg (ah.row eO),cI vt] (·=cI r):=by
 refine aD.bc func99 rfl ntmps99 rfl λS hS=>?_
 unfold nv at H;refine .A 11 [.r 0] rfl trivial (.lp H (λaE=>[(1,.d (cI vt)),(2,.ref 0 0),(5,.d (cI aE))]) (λaE=>⟨[ah.o123 eO],[]⟩) (.k3 rfl rfl rfl (.nil)) rfl ?_);rintro aE q1 H bu;unfold pP at H;refine .A 9 [.i (eO.bl.length:Int)] rfl (tg.n rfl rfl) (.ite H rfl (λH=>?_) (λH=>?_))
 ·obtain ⟨cH,H⟩:=aq H;refine .A 14 [.d (.ro (Sub.row (nth eO.bl aE.toNat)))] rfl (tg.ix rfl rfl rfl cH) (.ite H rfl (λH=>?_) (λH=>?_))
  ·refine .E 5 rfl (.R func99 results99 rfl ?_);cases H;cases bu;exact .m rfl (.ak _)
  ·obtain ⟨cY,H⟩:=aq H;refine .A 7 [.i (aE+1)] rfl (aG rfl rfl cY) ?_;cases H;exact .z bu rfl rfl
 ·refine .E 5 rfl (.R func99 results99 rfl ?_);cases H;cases bu;exact .m rfl (.ak _)
theorem rl {eO:ah} {vt:Int} {r:Bool} (H:lg eO vt=some r):aD prog 100 [.agg (ah.row eO),cI vt] (·=cB r):=by
 refine aD.bc func100 rfl ntmps100 rfl λS hS=>?_
 unfold lg at H;refine .A 11 [.r 0] rfl trivial (.lp H (λaE=>[(1,.d (cI vt)),(2,.ref 0 0),(5,.d (cI aE))]) (λaE=>⟨[ah.o123 eO],[]⟩) (.k3 rfl rfl rfl (.nil)) rfl ?_);rintro aE q1 H bu;unfold mJ at H;refine .A 9 [.i (eO.ended.length:Int)] rfl (r7.n rfl rfl) (.ite H rfl (λH=>?_) (λH=>?_))
 ·obtain ⟨cH,H⟩:=aq H;refine .A 13 [.d (.ro (rI (nth eO.ended aE.toNat)))] rfl (r7.ix rfl rfl rfl cH) (.ite H rfl (λH=>?_) (λH=>?_))
  ·refine .E 4 rfl (.R func100 results100 rfl ?_);cases H;cases bu;exact .m rfl (.ak _)
  ·obtain ⟨cY,H⟩:=aq H;refine .A 7 [.i (aE+1)] rfl (aG rfl rfl cY) ?_;cases H;exact .z bu rfl rfl
 ·refine .E 5 rfl (.R func100 results100 rfl ?_);cases H;cases bu;exact .m rfl (.ak _)
theorem IE {eO:ah} {vt:Int} {r:Bool} (H:tu eO vt=some r):aD prog 159 [.agg (ah.row eO),cI vt] (·=cB r):=by
 refine aD.bc func159 rfl ntmps159 rfl λS hS=>?_
 unfold tu at H;refine .A 11 [.r 0] rfl trivial (.lp H (λaE=>[(1,.d (cI vt)),(2,.ref 0 0),(5,.d (cI aE))]) (λaE=>⟨[ah.o123 eO],[]⟩) (.k3 rfl rfl rfl (.nil)) rfl ?_);rintro aE q1 H bu;unfold ox at H;refine .A 9 [.i (eO.bl.length:Int)] rfl (tg.n rfl rfl) (.ite H rfl (λH=>?_) (λH=>?_))
 ·obtain ⟨cH,cY,H⟩:=ck2 H;obtain ⟨y1,cQ,H⟩:=ae H;refine .A 26 [.p 19,.d (.ro (Sub.row (nth eO.bl aE.toNat))),.d (.ro (Sub.row (nth eO.bl aE.toNat))),.b y1] rfl ⟨rfl,rfl,λhg=>av (en 122 rfl) rfl rfl (rl (ba cQ hg)),rfl,rfl,rfl,rfl,λhg=>tg.ix rfl rfl rfl (cY hg),rfl,rfl,rfl,tg.ix rfl rfl rfl cH,(show cr _ _=true by kernel_rfl)⟩ (.ite H rfl (λH=>?_) (λH=>?_))
  ·refine .E 4 rfl (.R func159 results159 rfl ?_);cases H;cases bu;exact .m rfl (.ak _)
  ·obtain ⟨dW,H⟩:=aq H;refine .A 7 [.i (aE+1)] rfl (aG rfl rfl dW) ?_;cases H;exact .z bu rfl rfl
 ·refine .E 5 rfl (.R func159 results159 rfl ?_);cases H;cases bu;exact .m rfl (.ak _)
theorem Bm {eO:ah} {sr:Event} {r:Int} (H:lI eO sr=some r):aD prog 119 [.agg (ah.row eO),.agg (Event.row sr)] (·=cI r):=by
 refine aD.bc func119 rfl ntmps119 rfl λS hS=>?_
 unfold lI at H;obtain ⟨y1,cQ,H⟩:=ae H;refine .A 21 [.r 0,.r 1,.i y1] rfl (av (en 123 rfl) rfl rfl (si cQ)) (.ite H rfl (λH=>?_) (λH=>?_))
 ·refine .E 6 rfl (.ite H rfl (λH=>?_) (λH=>?_))
  ·refine .E 4 rfl (.R func119 results119 rfl ?_);cases H;exact .m rfl (.ak _)
  ·refine .E 5 rfl (.R func119 results119 rfl ?_);cases H;exact .m rfl (.ak _)
 ·refine .E 7 rfl (.ite H rfl (λH=>?_) (λH=>?_))
  ·refine .E 4 rfl (.R func119 results119 rfl ?_);cases H;exact .m rfl (.ak _)
  ·obtain ⟨cH,H⟩:=aq H;refine .A 11 [.d (.ro (al.n9 (nth eO.aJ y1.toNat)))] rfl (Ie.ix rfl rfl rfl cH) (.ite H rfl (λH=>?_) (λH=>?_))
   ·refine .E 4 rfl (.R func119 results119 rfl ?_);cases H;exact .m rfl (.ak _)
   ·obtain ⟨y2,fD,H⟩:=ae H;refine .A 15 [.i y2] rfl ⟨rfl,rfl,λhg=>av (en 124 rfl) rfl rfl (rV (ba fD hg)),rfl,rfl,rfl⟩ (.ite H rfl (λH=>?_) (λH=>?_))
    ·refine .E 4 rfl (.R func119 results119 rfl ?_);cases H;exact .m rfl (.ak _)
    ·obtain ⟨y3,ju,H⟩:=ae H;obtain ⟨cY,H⟩:=aq H;refine .B 25 [.b y3,.d (.ro (al.n9 (nth eO.aJ y1.toNat)))] rfl ⟨rfl,rfl,rfl,λhg=>Ie.ix rfl rfl rfl (cY hg),rfl,rfl,rfl,rfl,rfl,rfl,rfl,λhg=>av (en 125 rfl) rfl rfl (IE (ba ju hg)),rfl,rfl,rfl⟩ (.gE (env':=[(46,_),(53,_)]) rfl rfl rfl ⟨.inr (.inl rfl),⟨.inr (.inr ⟨_,_,rfl,rfl⟩),trivial⟩⟩ rfl (λhg=>aK.g (dv rfl rfl rfl)) (.A 2 [] rfl rfl (.ite H rfl (λH=>?_) (λH=>?_))))
     ·refine .E 4 rfl (.R func119 results119 rfl ?_);cases H;exact .m rfl (.ak _)
     ·refine .E 5 rfl (.R func119 results119 rfl ?_);cases H;exact .m rfl (.ak _)
theorem rW {jP:List (List UInt8)} {xI:List UInt8} {r:Bool} (H:nw jP xI=some r):aD prog 97 [ai 1 rS jP,cS xI] (·=cB r):=by
 refine aD.bc func97 rfl ntmps97 rfl λS hS=>?_
 unfold nw at H;refine .E 10 rfl (.lp H (λaE=>[(0,.d (ai 1 rS jP)),(1,.d (cS xI)),(5,.d (cI aE))]) (λaE=>⟨[],[]⟩) (.k3 rfl rfl rfl (.nil)) rfl ?_);rintro aE q1 H bu;unfold pQ at H;refine .A 8 [.i (jP.length:Int)] rfl (Dg.n rfl rfl) (.ite H rfl (λH=>?_) (λH=>?_))
 ·obtain ⟨cH,H⟩:=aq H;refine .A 12 [.d (.ro (rS (nth jP aE.toNat)))] rfl (Dg.ix rfl rfl rfl cH) (.ite H rfl (λH=>?_) (λH=>?_))
  ·refine .E 4 rfl (.R func97 results97 rfl ?_);cases H;cases bu;exact .m rfl (.ak _)
  ·obtain ⟨cY,H⟩:=aq H;refine .A 7 [.i (aE+1)] rfl (aG rfl rfl cY) ?_;cases H;exact .z bu rfl rfl
 ·refine .E 5 rfl (.R func97 results97 rfl ?_);cases H;cases bu;exact .m rfl (.ak _)
theorem Gk {eO:ah} {dd:List UInt8} {r:Bool} (H:rL eO dd=some r):aD prog 160 [.agg (ah.row eO),cS dd] (·=cB r):=by
 refine aD.bc func160 rfl ntmps160 rfl λS hS=>?_
 unfold rL at H;refine .A 11 [.r 0] rfl trivial (.lp H (λaE=>[(1,.d (cS dd)),(2,.ref 0 0),(5,.d (cI aE))]) (λaE=>⟨[ah.o123 eO],[]⟩) (.k3 rfl rfl rfl (.nil)) rfl ?_);rintro aE q1 H bu;unfold mK at H;refine .A 9 [.i (eO.bl.length:Int)] rfl (tg.n rfl rfl) (.ite H rfl (λH=>?_) (λH=>?_))
 ·obtain ⟨cH,H⟩:=aq H;obtain ⟨y1,cQ,H⟩:=ae H;refine .A 14 [.d (.ro (Sub.row (nth eO.bl aE.toNat))),.b y1] rfl ⟨av (en 126 rfl) rfl rfl (rW cQ),tg.ix rfl rfl rfl cH⟩ (.ite H rfl (λH=>?_) (λH=>?_))
  ·refine .E 4 rfl (.R func160 results160 rfl ?_);cases H;cases bu;exact .m rfl (.ak _)
  ·obtain ⟨cY,H⟩:=aq H;refine .A 7 [.i (aE+1)] rfl (aG rfl rfl cY) ?_;cases H;exact .z bu rfl rfl
 ·refine .E 5 rfl (.R func160 results160 rfl ?_);cases H;cases bu;exact .m rfl (.ak _)
theorem Gl {v0:ah} {v1:Event} {r:Int} (H:rM v0 v1=some r):aD prog 120 [.agg (ah.row v0),.agg (Event.row v1)] (·=cI r):=by
 refine aD.bc func120 rfl ntmps120 rfl λS hS=>?_
 unfold rM at H;obtain ⟨y1,cQ,H⟩:=ae H;refine .A 20 [.r 0,.r 1,.i y1] rfl (av (en 124 rfl) rfl rfl (rV cQ)) (.ite H rfl (λH=>?_) (λH=>?_))
 ·refine .E 4 rfl (.R func120 results120 rfl ?_);cases H;exact .m rfl (.ak _)
 ·obtain ⟨y2,fD,H⟩:=ae H;refine .A 9 [.b y2] rfl (av (en 122 rfl) rfl rfl (rl fD)) (.ite H rfl (λH=>?_) (λH=>?_))
  ·refine .E 4 rfl (.R func120 results120 rfl ?_);cases H;exact .m rfl (.ak _)
  ·obtain ⟨cH,H⟩:=aq H;refine .A 23 [.d (.ro (Sub.row (nth v0.bl y1.toNat))),.r 2] rfl (tg.ix rfl rfl rfl cH) (.ite H rfl (λH=>?_) (λH=>?_))
   ·obtain ⟨y3,ju,H⟩:=ae H;refine .A 7 [.b y3] rfl (av (en 127 rfl) rfl rfl (Gk ju)) (.ite H rfl (λH=>?_) (λH=>?_))
    ·refine .E 4 rfl (.R func120 results120 rfl ?_);cases H;exact .m rfl (.ak _)
    ·refine .E 6 rfl (.R func120 results120 rfl ?_);cases H;exact .m rfl (.ak _)
   ·refine .E 5 rfl (.ite H rfl (λH=>?_) (λH=>?_))
    ·obtain ⟨y4,nU,H⟩:=ae H;refine .A 9 [.b y4] rfl (av (en 126 rfl) rfl rfl (rW nU)) (.ite H rfl (λH=>?_) (λH=>?_))
     ·refine .E 4 rfl (.R func120 results120 rfl ?_);cases H;exact .m rfl (.ak _)
     ·refine .E 6 rfl (.R func120 results120 rfl ?_);cases H;exact .m rfl (.ak _)
    ·refine .E 5 rfl (.ite H rfl (λH=>?_) (λH=>?_))
     ·obtain ⟨y5,uR,H⟩:=ae H;refine .A 8 [.b y5] rfl (av (en 126 rfl) rfl rfl (rW uR)) (.ite H rfl (λH=>?_) (λH=>?_))
      ·refine .E 4 rfl (.R func120 results120 rfl ?_);cases H;exact .m rfl (.ak _)
      ·refine .E 6 rfl (.R func120 results120 rfl ?_);cases H;exact .m rfl (.ak _)
     ·refine .E 5 rfl (.ite H rfl (λH=>?_) (λH=>?_))
      ·obtain ⟨y6,Dr,H⟩:=ae H;refine .A 9 [.b y6] rfl (av (en 126 rfl) rfl rfl (rW Dr)) (.ite H rfl (λH=>?_) (λH=>?_))
       ·refine .E 4 rfl (.R func120 results120 rfl ?_);cases H;exact .m rfl (.ak _)
       ·refine .E 6 rfl (.R func120 results120 rfl ?_);cases H;exact .m rfl (.ak _)
      ·refine .jg (ι:=Bool) (λG8=>[(3,.ref 1 0),(6,.ref 2 0),(23,.d (cI v1.kind)),(53,.d (cB G8))]) (λG8=>⟨[ah.o123 v0,Event.o79 v1,Sub.o98 (nth v0.bl y1.toNat)],[]⟩) (λs=>kM v0 v1 y1 s=some r) ?_ ?_
       ·rintro G8 H;replace H:kM v0 v1 y1 G8=some r:=H;unfold kM at H;refine .ite H rfl (λH=>?_) (λH=>?_)
        ·refine .A 9 [.b (((nth v0.bl y1.toNat).bL)==(v1.kind==10))] rfl (aK.g (Pw rfl underlying4 rfl)) (.ite H rfl (λH=>?_) (λH=>?_))
         ·refine .E 4 rfl (.R func120 results120 rfl ?_);cases H;exact .m rfl (.ak _)
         ·refine .E 6 rfl (.R func120 results120 rfl ?_);cases H;exact .m rfl (.ak _)
        ·refine .jg (ι:=Bool) (λG7=>[(3,.ref 1 0),(6,.ref 2 0),(62,.d (cB G7))]) (λG7=>⟨[ah.o123 v0,Event.o79 v1,Sub.o98 (nth v0.bl y1.toNat)],[]⟩) (λs=>kL v0 v1 y1 s=some r) ?_ ?_
         ·rintro G7 H;replace H:kL v0 v1 y1 G7=some r:=H;unfold kL at H;refine .ite H rfl (λH=>?_) (λH=>?_)
          ·refine .A 9 [.b (((nth v0.bl y1.toNat).family)==(v1.kind==12))] rfl (aK.g (Pw rfl underlying4 rfl)) (.ite H rfl (λH=>?_) (λH=>?_))
           ·refine .E 4 rfl (.R func120 results120 rfl ?_);cases H;exact .m rfl (.ak _)
           ·refine .E 6 rfl (.R func120 results120 rfl ?_);cases H;exact .m rfl (.ak _)
          ·refine .E 6 rfl (.R func120 results120 rfl ?_);cases H;exact .m rfl (.ak _)
         ·intro A8;refine .E 5 rfl (.ite H rfl (λH=>?_) (λH=>?_))
          ·exact .E 1 rfl (.z (A8 (v1.kind==12) H) rfl rfl)
          ·exact .E 4 rfl (.z (A8 (v1.kind==13) H) rfl rfl)
       ·intro p7;refine .E 5 rfl (.ite H rfl (λH=>?_) (λH=>?_))
        ·exact .E 1 rfl (.z (p7 (v1.kind==10) H) rfl rfl)
        ·exact .E 4 rfl (.z (p7 (v1.kind==11) H) rfl rfl)
theorem Gm {eO:ah} {sr:Event} {qD r:Int} (H:o5 eO sr qD=some r):aD prog 74 [.agg (ah.row eO),.agg (Event.row sr),cI qD] (·=cI r):=by
 obtain ⟨i4,BJ,R7,DN,T3⟩:=Mb;refine aD.bc func74 rfl ntmps74 rfl λS hS=>?_
 unfold o5 at H;obtain ⟨y1,cQ,H⟩:=ae H;refine .A 19 [.r 0,.r 1,.i y1] rfl (av (en 128 rfl) rfl rfl (ID cQ)) (.ite H rfl (λH=>?_) (λH=>?_))
 ·refine .E 5 rfl (.R func74 results74 rfl ?_);cases H;exact .m rfl (.ak _)
 ·obtain ⟨y2,fD,H⟩:=ae H;refine .A 9 [.d (.agg [cB (nth y2 0),cB (nth y2 1),cB (nth y2 2),cB (nth y2 3),cB (nth y2 4)]),.b (nth y2 0)] rfl ⟨aK.g (P0 (m:=0) underlying171 TX BJ DN rfl rfl rfl (by decide) rfl),av (en 118 rfl) rfl rfl (Bl fD)⟩ (.ite H rfl (λH=>?_) (λH=>?_))
  ·obtain ⟨y3,ju,H⟩:=ae H;refine .A 7 [.i y3] rfl (av (en 129 rfl) rfl rfl (Bm ju)) (.R func74 results74 rfl ?_);cases H;exact .m rfl (.ak _)
  ·obtain ⟨y4,nU,H⟩:=ae H;refine .A 8 [.i y4] rfl (av (en 130 rfl) rfl rfl (Gl nU)) (.R func74 results74 rfl ?_);cases H;exact .m rfl (.ak _)
theorem Bn {jP:List (List UInt8)} {xI:List UInt8} {r:(List (List UInt8))} (H:qI jP xI=some r):aD prog 161 [ai 1 rS jP,cS xI] (·=ai 1 rS r):=by
 obtain ⟨i9,Jr,OV,Js,YZ⟩:=ON;refine aD.bc func161 rfl ntmps161 rfl λS hS=>?_
 unfold qI at H;refine .E 9 rfl (.bH (ι:=Int) (λbY=>[(0,.d (ai 1 rS jP)),(1,.d (cS xI)),(5,.d (cI bY))]) (λbY=>⟨[],[]⟩) (λs=>lO jP xI s=some r) ?_ ?_)
 ·rintro bY H;replace H:lO jP xI bY=some r:=H;unfold lO at H;obtain ⟨cH,cY,dW,gC,j5,H⟩:=ck5 H;refine let z0:=(([]:List (List UInt8))++(jP.take bY.toNat));.A 26 [.n (.cz 1 (([]:List (List UInt8)).map rS) 0) (CX ([]:List (List UInt8)).length),.d (ai 1 rS (jP.take bY.toNat)),.a 0 9 1 rS z0,.d (ai 1 rS ([xI]:List (List UInt8))),.a 0 9 1 rS (z0++([xI]:List (List UInt8))),.d (ai 1 rS (jP.drop bY.toNat)),.a 0 9 1 rS ((z0++([xI]:List (List UInt8)))++(jP.drop bY.toNat))] rfl ⟨Dg.a rfl rfl rfl rfl j5,aK.g (LP (l:=jP) (row:=rS) underlying96 Jr Js rfl rfl rfl gC),Dg.a rfl rfl rfl rfl dW,aT underlying96 Jr Js OV rfl rfl rfl rfl rfl,Dg.a rfl rfl rfl rfl cY,aK.g (Ee (l:=jP) (row:=rS) underlying96 Jr Js rfl rfl rfl cH),.e (ve underlying96 Jr Js) rfl⟩ ?_;refine .R func161 results161 rfl ?_;cases H;exact .m rfl (.cz _ _ _)
 ·intro p7 eX;refine .lp H (λcT=>[(0,.d (ai 1 rS jP)),(1,.d (cS xI)),(5,.d (cI cT))]) (λcT=>⟨[],[]⟩) (.k3 rfl rfl rfl (.nil)) rfl ?_;rintro cT q1 H bu;unfold uN at H;obtain ⟨pb,H⟩:=aq H;refine .A 16 [.i (jP.length:Int),.d (.ro (rS (nth jP cT.toNat))),.b (nO (nth jP cT.toNat) xI)] rfl ⟨rfl,λhg=>aK.g (Qm rfl rfl),rfl,rfl,rfl,λhg=>Dg.ix rfl rfl rfl (pb hg),rfl,rfl,Dg.n rfl rfl⟩ (.ite H rfl (λH=>?_) (λH=>?_))
  ·obtain ⟨uS,H⟩:=aq H;refine .A 8 [.i (cT+1)] rfl (aG rfl rfl uS) ?_;cases H;exact .z bu rfl rfl
  ·refine .E 1 rfl ?_;obtain ⟨q0,H9,lz⟩:=bR H;clear H;cases lz;cases bu;have H:=H9;exact .z (eX cT H) rfl rfl
theorem w6 {jP:List (List UInt8)} {xI:List UInt8} {r:(List (List UInt8))} (H:lP jP xI=some r):aD prog 162 [ai 1 rS jP,cS xI] (·=ai 1 rS r):=by
 obtain ⟨i9,Jr,OV,Js,YZ⟩:=ON;refine aD.bc func162 rfl ntmps162 rfl λS hS=>?_
 unfold lP at H;refine .E 14 rfl (.tok (i:=5) (e:=9) (sz:=1) rfl (.lp H (λ⟨dr,cX⟩=>[(0,.d (ai 1 rS jP)),(1,.d (cS xI)),(5,.cz 1 (dr.map rS) 0),(6,.d (cI cX))]) (λ⟨dr,cX⟩=>⟨[],[CX dr.length]⟩) (.k4 rfl rfl rfl rfl (.nil)) rfl ?_));rintro ⟨dr,cX⟩ q1 H bu
 dsimp only at H
 unfold qJ at H;refine .A 8 [.i (jP.length:Int)] rfl (Dg.n rfl rfl) (.ite H rfl (λH=>?_) (λH=>?_))
 ·obtain ⟨cH,H⟩:=aq H;refine .A 12 [.d (.ro (rS (nth jP cX.toNat)))] rfl (Dg.ix rfl rfl rfl cH) (.ite H rfl (λH=>?_) (λH=>?_))
  ·obtain ⟨cY,dW,gC,H⟩:=ck3 H;refine .A 16 [.d (.ro (rS (nth jP cX.toNat))),.d (ai 1 rS ([nth jP cX.toNat]:List (List UInt8))),.a 0 9 1 rS (dr++([nth jP cX.toNat]:List (List UInt8))),.i (cX+1)] rfl ⟨aG rfl rfl gC,Dg.a rfl rfl rfl rfl dW,aT underlying96 Jr Js OV rfl rfl rfl rfl rfl,Dg.ix rfl rfl rfl cY⟩ ?_;cases H;exact .z bu rfl rfl
  ·obtain ⟨j5,H⟩:=aq H;refine .A 7 [.i (cX+1)] rfl (aG rfl rfl j5) ?_;cases H;exact .z bu rfl rfl
 ·refine .E 6 rfl (.R func162 results162 rfl ?_);cases H;cases bu;exact .m rfl (.cz _ _ _)
theorem Dz {b8 r:Sub} {sr:Event} (H:oy b8 sr=some r):aD prog 122 [.agg (Sub.row b8),.agg (Event.row sr)] (·=.agg (Sub.row r)):=by
 refine aD.bc func122 rfl ntmps122 rfl λS hS=>?_
 unfold oy at H;refine .A 18 [.r 0,.r 1,.r 2] rfl trivial (.ite H rfl (λH=>?_) (λH=>?_))
 ·refine .E 15 rfl (.R func122 results122 rfl ?_);cases H;exact .m rfl (.d (.agg ⟨.ak _,.ak _,.ak _,.ak _,.nil 1,.nil 1,.ak _,.ak _,trivial⟩))
 ·refine .E 5 rfl (.ite H rfl (λH=>?_) (λH=>?_))
  ·obtain ⟨y1,cQ,H⟩:=ae H;refine .A 15 [.d (ai 1 rS y1)] rfl (av (en 131 rfl) rfl rfl (Bn cQ)) (.R func122 results122 rfl ?_);cases H;exact .m rfl (.ak _)
  ·refine .E 5 rfl (.ite H rfl (λH=>?_) (λH=>?_))
   ·obtain ⟨y2,fD,H⟩:=ae H;refine .A 15 [.d (ai 1 rS y2)] rfl (av (en 132 rfl) rfl rfl (w6 fD)) (.R func122 results122 rfl ?_);cases H;exact .m rfl (.ak _)
   ·refine .E 5 rfl (.ite H rfl (λH=>?_) (λH=>?_))
    ·refine .E 12 rfl (.R func122 results122 rfl ?_);cases H;exact .m rfl (.ak _)
    ·refine .E 5 rfl (.ite H rfl (λH=>?_) (λH=>?_))
     ·obtain ⟨y3,ju,H⟩:=ae H;refine .A 15 [.d (ai 1 rS y3)] rfl (av (en 131 rfl) rfl rfl (Bn ju)) (.R func122 results122 rfl ?_);cases H;exact .m rfl (.ak _)
     ·refine .E 5 rfl (.ite H rfl (λH=>?_) (λH=>?_))
      ·obtain ⟨y4,nU,H⟩:=ae H;refine .A 15 [.d (ai 1 rS y4)] rfl (av (en 132 rfl) rfl rfl (w6 nU)) (.R func122 results122 rfl ?_);cases H;exact .m rfl (.ak _)
      ·refine .E 5 rfl (.ite H rfl (λH=>?_) (λH=>?_))
       ·refine .E 10 rfl (.R func122 results122 rfl ?_);cases H;exact .m rfl (.ak _)
       ·refine .E 5 rfl (.ite H rfl (λH=>?_) (λH=>?_))
        ·refine .E 10 rfl (.R func122 results122 rfl ?_);cases H;exact .m rfl (.ak _)
        ·refine .E 5 rfl (.ite H rfl (λH=>?_) (λH=>?_))
         ·refine .E 10 rfl (.R func122 results122 rfl ?_);cases H;exact .m rfl (.ak _)
         ·refine .E 5 rfl (.ite H rfl (λH=>?_) (λH=>?_))
          ·refine .E 10 rfl (.R func122 results122 rfl ?_);cases H;exact .m rfl (.ak _)
          ·refine .E 7 rfl (.R func122 results122 rfl ?_);cases H;exact .m rfl (.ak _)
theorem zE {v0 r:ah} {v1:Event} (H:gN v0 v1=some r):aD prog 75 [.agg (ah.row v0),.agg (Event.row v1)] (·=.agg (ah.row r)):=by
 obtain ⟨i3,uT,xa,yT,F3⟩:=AW;obtain ⟨i98,qa,tM,wH,Gc⟩:=CW;obtain ⟨i123,Ku,Kv,T8,T9⟩:=Mc;obtain ⟨i175,qb,sx,wY,He⟩:=EB;refine aD.bc func75 rfl ntmps75 rfl λS hS=>?_
 unfold gN at H;refine .A 7 [.r 0,.r 1,.r 2] rfl trivial (.U9 (e:=175) (sz:=6) (.U9 (e:=98) (sz:=8) (.U9 (e:=3) (sz:=1) ?_)));obtain ⟨cH,cY,dW,H⟩:=ck3 H;refine let z0:dI:=.row 123 [.d aY,.d aY,.d aY];let z1:=(([]:List al)++v0.aJ);let z2:=(([]:List al).map al.n9);let z3:=(([]:List Int)++v0.ended);let z4:=(([]:List Sub)++v0.bl);.parts 14 [3,7,11,13] [⟨[ah.o123 v0,Event.o79 v1,z0],[⟨175,6,0,some z2⟩,Sub.B7 0 ([]:List Sub),⟨3,1,0,some (([]:List Int).map rI)⟩]⟩,⟨[ah.o123 v0,Event.o79 v1,z0],[⟨175,6,z1.length,some (z1.map al.n9)⟩,Sub.B7 0 ([]:List Sub),⟨3,1,0,some (([]:List Int).map rI)⟩]⟩,⟨[ah.o123 v0,Event.o79 v1,z0],[⟨175,6,0,some z2⟩,Sub.B7 0 ([]:List Sub),⟨3,1,0,some (([]:List Int).map rI)⟩]⟩,⟨[ah.o123 v0,Event.o79 v1,z0],[⟨175,6,z1.length,some (z1.map al.n9)⟩,Sub.Mg z4,⟨3,1,0,some (([]:List Int).map rI)⟩]⟩,⟨[ah.o123 v0,Event.o79 v1,z0],[⟨175,6,0,some z2⟩,Sub.B7 0 ([]:List Sub),⟨3,1,0,some (([]:List Int).map rI)⟩]⟩,⟨[ah.o123 v0,Event.o79 v1,z0],[⟨175,6,0,some z2⟩,Sub.B7 0 ([]:List Sub),⟨3,1,0,some (([]:List Int).map rI)⟩]⟩,⟨[ah.o123 v0,Event.o79 v1,z0],[⟨175,6,0,some z2⟩,Sub.B7 0 ([]:List Sub),⟨3,1,0,some (([]:List Int).map rI)⟩]⟩,⟨[ah.o123 v0,Event.o79 v1,z0],[⟨175,6,z1.length,some (z1.map al.n9)⟩,Sub.Mg z4,⟨3,1,z3.length,some (z3.map rI)⟩]⟩,⟨[ah.o123 v0,Event.o79 v1,z0,z0],[⟨175,6,0,some z2⟩,Sub.B7 0 ([]:List Sub),⟨3,1,0,some (([]:List Int).map rI)⟩]⟩,⟨[ah.o123 v0,Event.o79 v1,z0,z0],[⟨175,6,z1.length,some (z1.map al.n9)⟩,Sub.B7 0 ([]:List Sub),⟨3,1,0,some (([]:List Int).map rI)⟩]⟩,⟨[ah.o123 v0,Event.o79 v1,z0],[⟨175,6,0,some z2⟩,Sub.B7 0 ([]:List Sub),⟨3,1,0,some (([]:List Int).map rI)⟩]⟩,⟨[ah.o123 v0,Event.o79 v1,z0,z0],[⟨175,6,z1.length,some (z1.map al.n9)⟩,Sub.Mg z4,⟨3,1,0,some (([]:List Int).map rI)⟩]⟩,⟨[ah.o123 v0,Event.o79 v1,z0],[⟨175,6,0,some z2⟩,Sub.B7 0 ([]:List Sub),⟨3,1,0,some (([]:List Int).map rI)⟩]⟩,⟨[ah.o123 v0,Event.o79 v1,z0],[⟨175,6,0,some z2⟩,Sub.B7 0 ([]:List Sub),⟨3,1,0,some (([]:List Int).map rI)⟩]⟩,⟨[ah.o123 v0,Event.o79 v1,z0],[⟨175,6,0,some z2⟩,Sub.B7 0 ([]:List Sub),⟨3,1,0,some (([]:List Int).map rI)⟩]⟩,⟨[ah.o123 v0,Event.o79 v1,z0,z0],[⟨175,6,z1.length,some (z1.map al.n9)⟩,Sub.Mg z4,⟨3,1,z3.length,some (z3.map rI)⟩]⟩] nP (by kernel_rfl) rfl (by decide) rfl ?_;show B1 _ _ _ _ _ _ _ _ _ _ (_::_) _ _;refine .g (x:=.d (.e0 6)) [0,8] ⟨⟨_,rfl,(wY▸dJ underlying119 qb)⟩,⟨_,rfl,(wY▸dJ underlying119 qb)⟩,trivial⟩ rfl (by kernel_rfl) rfl (.s (x:=.ref 0 0) (λs=>br Qq rfl) rfl rfl (.g (x:=.d (ai 6 al.n9 v0.aJ)) [0,8] ⟨⟨_,rfl,aK.g (cg Nn rfl rfl rfl)⟩,⟨_,rfl,aK.g (cg Nn rfl rfl rfl)⟩,trivial⟩ rfl (by kernel_rfl) rfl ?_));refine .v (x:=.vc 0 (([]:List al)++v0.aJ).length) 0 [0,8] ⟨⟨_,_,rfl,rfl,qs (l':=v0.aJ) (row:=al.n9) underlying119 qb sx wY rfl (by rw [He];decide) rfl (.inl rfl) rfl rfl rfl cH⟩,⟨_,_,rfl,rfl,qs (l':=v0.aJ) (row:=al.n9) underlying119 qb sx wY rfl (by rw [He];decide) rfl (.inl rfl) rfl rfl rfl cH⟩,trivial⟩ rfl (by kernel_rfl) rfl ?_;refine .g (x:=.d (.e0 8)) [0,1,8,9] ⟨⟨_,rfl,(wH▸dJ underlying120 qa)⟩,⟨_,rfl,(wH▸dJ underlying120 qa)⟩,⟨_,rfl,(wH▸dJ underlying120 qa)⟩,⟨_,rfl,(wH▸dJ underlying120 qa)⟩,trivial⟩ rfl (by kernel_rfl) rfl (.s (x:=.ref 0 1) (λs=>br Qr rfl) rfl rfl (.g (x:=.d (ai 8 Sub.row v0.bl)) [0,1,8,9] ⟨⟨_,rfl,aK.g (cg yo rfl rfl rfl)⟩,⟨_,rfl,aK.g (cg yo rfl rfl rfl)⟩,⟨_,rfl,aK.g (cg yo rfl rfl rfl)⟩,⟨_,rfl,aK.g (cg yo rfl rfl rfl)⟩,trivial⟩ rfl (by kernel_rfl) rfl ?_));refine .v (x:=.vc 1 (([]:List Sub)++v0.bl).length) 1 [1,9] ⟨⟨_,_,rfl,rfl,qs (l':=v0.bl) (row:=Sub.row) underlying120 qa tM wH rfl (by rw [Gc];decide) rfl (.inl rfl) rfl rfl rfl cY⟩,⟨_,_,rfl,rfl,qs (l':=v0.bl) (row:=Sub.row) underlying120 qa tM wH rfl (by rw [Gc];decide) rfl (.inl rfl) rfl rfl rfl cY⟩,trivial⟩ rfl (by kernel_rfl) rfl ?_;refine .g (x:=.d (.e0 1)) [0,1,3,8,9,11] ⟨⟨_,rfl,(yT▸dJ underlying121 uT)⟩,⟨_,rfl,(yT▸dJ underlying121 uT)⟩,⟨_,rfl,(yT▸dJ underlying121 uT)⟩,⟨_,rfl,(yT▸dJ underlying121 uT)⟩,⟨_,rfl,(yT▸dJ underlying121 uT)⟩,⟨_,rfl,(yT▸dJ underlying121 uT)⟩,trivial⟩ rfl (by kernel_rfl) rfl (.s (x:=.ref 0 2) (λs=>br Qs rfl) rfl rfl (.g (x:=.d (ai 1 rI v0.ended)) [0,1,3,8,9,11] ⟨⟨_,rfl,aK.g (cg yp rfl rfl rfl)⟩,⟨_,rfl,aK.g (cg yp rfl rfl rfl)⟩,⟨_,rfl,aK.g (cg yp rfl rfl rfl)⟩,⟨_,rfl,aK.g (cg yp rfl rfl rfl)⟩,⟨_,rfl,aK.g (cg yp rfl rfl rfl)⟩,⟨_,rfl,aK.g (cg yp rfl rfl rfl)⟩,trivial⟩ rfl (by kernel_rfl) rfl ?_));refine .v (x:=.vc 2 (([]:List Int)++v0.ended).length) 2 [3,11] ⟨⟨_,_,rfl,rfl,qs (l':=v0.ended) (row:=rI) underlying121 uT xa yT rfl (by rw [F3];decide) rfl (.inl rfl) rfl rfl rfl dW⟩,⟨_,_,rfl,rfl,qs (l':=v0.ended) (row:=rI) underlying121 uT xa yT rfl (by rw [F3];decide) rfl (.inl rfl) rfl rfl rfl dW⟩,trivial⟩ rfl (by kernel_rfl) rfl ?_;refine .s (x:=.agg [.vc 0 (([]:List al)++v0.aJ).length,.vc 1 (([]:List Sub)++v0.bl).length,.vc 2 (([]:List Int)++v0.ended).length]) (λs=>En Md Ku Kv rfl rfl) rfl rfl (.v (x:=.ref 3 0) 3 [0,1,3,7] ⟨⟨_,_,rfl,rfl,jh EC rfl⟩,⟨_,_,rfl,rfl,jh EC rfl⟩,⟨_,_,rfl,rfl,jh EC rfl⟩,⟨_,_,rfl,rfl,jh EC rfl⟩,trivial⟩ rfl (by kernel_rfl) rfl (.nil rfl ?_));show cd _ _ _ _ _ _ (_::_) _ _ _;refine .E 14 rfl (.ite H rfl (λH=>?_) (λH=>?_))
 ·obtain ⟨gC,H⟩:=aq H;refine let z1:=(v1.name==([112,114,101,112,97,105,100]:List UInt8));let z0:=((([]:List al)++v0.aJ)++([(⟨v1.au,v1.at_,v1.value,z1,false,([]:List Int)⟩:al)]:List al));.B 21 [.d (.agg [cI v1.au,cI v1.at_,cI v1.value,cB z1,cB false,aY]),.d (ai 6 al.n9 ([(⟨v1.au,v1.at_,v1.value,z1,false,([]:List Int)⟩:al)]:List al)),.t (.vc 0 z0.length) 0 ⟨175,6,z0.length,some (z0.map al.n9)⟩] rfl ⟨.e (gq (l:=([]:List al)++v0.aJ) (l':=([(⟨v1.au,v1.at_,v1.value,z1,false,([]:List Int)⟩:al)]:List al)) (row:=al.n9) underlying119 qb sx wY rfl (by rw [He];decide) rfl rfl rfl rfl gC) rfl,zi.le (aT underlying119 qb wY sx rfl rfl rfl rfl rfl) (dX.d (.sl ⟨⟨.ak _,.ak _,.ak _,.ak _,.ak _,.nil0 1,trivial⟩,trivial⟩)),aK.g (bh Qz qb sx rfl rfl)⟩ ?_;refine .freezeCell (l:=(([]:List al)++v0.aJ)++([(⟨v1.au,v1.at_,v1.value,(v1.name==([112,114,101,112,97,105,100]:List UInt8)),false,([]:List Int)⟩:al)]:List al)) (row:=al.n9) 3 0 rfl rfl rfl (.freezeCell (l:=([]:List Sub)++v0.bl) (row:=Sub.row) 3 1 rfl rfl rfl (.freezeCell (l:=([]:List Int)++v0.ended) (row:=rI) 3 2 rfl rfl rfl (.E 3 rfl (.R func75 results75 rfl ?_))));cases H;exact .m rfl (.ak _)
 ·refine .E 5 rfl (.ite H rfl (λH=>?_) (λH=>?_))
  ·obtain ⟨y1,cQ,H⟩:=ae H;obtain ⟨j5,pb,H⟩:=ck2 H;refine let z0:=(([]:List al)++v0.aJ);let z1:=(([]:List Int)++v0.ended);.B 15 [.p 8,.i y1,.g (.vp 0 z0.length y1.toNat 0),.w 5 ⟨[ah.o123 v0,Event.o79 v1,.row 123 [.d aY,.d aY,.d aY],.row 123 [.vc 0 z0.length,.vc 1 (([]:List Sub)++v0.bl).length,.vc 2 z1.length]],[⟨175,6,z0.length,some ((z0.set y1.toNat (⟨(nth z0 y1.toNat).id,(nth z0 y1.toNat).since,(nth z0 y1.toNat).anchor,(nth z0 y1.toNat).fH,true,([]:List Int)⟩:al)).map al.n9)⟩,Sub.Mg (([]:List Sub)++v0.bl),⟨3,1,z1.length,some (z1.map rI)⟩]⟩] rfl ⟨.e (AQ (l:=([]:List al)++v0.aJ) (row:=al.n9) (a:=(⟨(nth z0 y1.toNat).id,(nth z0 y1.toNat).since,(nth z0 y1.toNat).anchor,(nth z0 y1.toNat).fH,true,([]:List Int)⟩:al)) rfl rfl pb rfl rfl sz_4 rfl (zaf rfl) rfl) rfl,aK.g (mh (l:=([]:List al)++v0.aJ) (row:=al.n9) (i:=y1) underlying119 qb wY rfl rfl rfl j5),av (en 123 rfl) rfl rfl (si cQ),(show cr _ _=true by kernel_rfl)⟩ ?_;refine let z0:=(([]:List al)++v0.aJ);.freezeCell (l:=z0.set y1.toNat (⟨(nth z0 y1.toNat).id,(nth z0 y1.toNat).since,(nth z0 y1.toNat).anchor,(nth z0 y1.toNat).fH,true,([]:List Int)⟩:al)) (row:=al.n9) 3 0 rfl rfl rfl ?_;refine .freezeCell (l:=([]:List Sub)++v0.bl) (row:=Sub.row) 3 1 rfl rfl rfl (.freezeCell (l:=([]:List Int)++v0.ended) (row:=rI) 3 2 rfl rfl rfl (.E 3 rfl (.R func75 results75 rfl ?_)));cases H;exact .m rfl (.ak _)
  ·refine .E 5 rfl (.ite H rfl (λH=>?_) (λH=>?_))
   ·obtain ⟨uS,H⟩:=aq H;refine let z0:=((([]:List Sub)++v0.bl)++([(⟨v1.sub,v1.au,v1.at_,v1.name,([]:List (List UInt8)),([]:List (List UInt8)),false,false⟩:Sub)]:List Sub));.B 20 [.d (.agg (Sub.row (⟨v1.sub,v1.au,v1.at_,v1.name,([]:List (List UInt8)),([]:List (List UInt8)),false,false⟩:Sub))),.d (ai 8 Sub.row ([(⟨v1.sub,v1.au,v1.at_,v1.name,([]:List (List UInt8)),([]:List (List UInt8)),false,false⟩:Sub)]:List Sub)),.t (.vc 1 z0.length) 1 (Sub.Mg z0)] rfl ⟨.e (gq (l:=([]:List Sub)++v0.bl) (l':=([(⟨v1.sub,v1.au,v1.at_,v1.name,([]:List (List UInt8)),([]:List (List UInt8)),false,false⟩:Sub)]:List Sub)) (row:=Sub.row) underlying120 qa tM wH rfl (by rw [Gc];decide) rfl rfl rfl rfl uS) rfl,aT underlying120 qa wH tM rfl rfl rfl rfl rfl,aK.g (aK.le (bh Ke qa tM rfl rfl) (dX.d (.agg ⟨.ak _,.ak _,.ak _,.ak _,.nil 1,.nil 1,.ak _,.ak _,trivial⟩)))⟩ ?_;refine .freezeCell (l:=([]:List al)++v0.aJ) (row:=al.n9) 3 0 rfl rfl rfl (.freezeCell (l:=(([]:List Sub)++v0.bl)++([(⟨v1.sub,v1.au,v1.at_,v1.name,([]:List (List UInt8)),([]:List (List UInt8)),false,false⟩:Sub)]:List Sub)) (row:=Sub.row) 3 1 rfl rfl rfl (.freezeCell (l:=([]:List Int)++v0.ended) (row:=rI) 3 2 rfl rfl rfl (.E 3 rfl (.R func75 results75 rfl ?_))));cases H;exact .m rfl (.ak _)
   ·refine let z0:=(([]:List al)++v0.aJ);let z1:=(([]:List Int)++v0.ended);.jg (ι:=Bool) (λG9=>[(2,.ref 0 0),(3,.ref 1 0),(4,.ref 2 0),(5,.ref 3 0),(90,.d (cB G9))]) (λG9=>⟨[ah.o123 v0,Event.o79 v1,.row 123 [.d aY,.d aY,.d aY],.row 123 [.vc 0 z0.length,.vc 1 (([]:List Sub)++v0.bl).length,.vc 2 z1.length]],[⟨175,6,z0.length,some (z0.map al.n9)⟩,Sub.Mg (([]:List Sub)++v0.bl),⟨3,1,z1.length,some (z1.map rI)⟩]⟩) (λs=>ja v0 v1 s=some r) ?_ ?_
    ·rintro G9 H;replace H:ja v0 v1 G9=some r:=H;unfold ja at H;refine .ite H rfl (λH=>?_) (λH=>?_)
     ·refine .F 2 rfl (.freezeCell (l:=([]:List al)++v0.aJ) (row:=al.n9) 3 0 rfl rfl rfl (.freezeCell (l:=([]:List Sub)++v0.bl) (row:=Sub.row) 3 1 rfl rfl rfl (.freezeCell (l:=([]:List Int)++v0.ended) (row:=rI) 3 2 rfl rfl rfl (.E 3 rfl (.R func75 results75 rfl ?_)))));cases H;exact .m rfl (.ak _)
     ·obtain ⟨y2,fD,H⟩:=ae H;obtain ⟨yS,Gb,H⟩:=ck2 H;obtain ⟨y3,ju,H⟩:=ae H;obtain ⟨Af,Iy,H⟩:=ck2 H;refine let z0:=(([]:List Sub)++v0.bl);let z1:=(([]:List al)++v0.aJ);let z2:=(([]:List Int)++v0.ended);.A 30 [.i y2,.p 11,.g (.vp 1 z0.length y2.toNat 0),.f 13 (.d (.agg (Sub.row (nth z0 y2.toNat)))),.d (.agg (Sub.row y3)),.g (.vp 1 z0.length y2.toNat 0),.w 8 ⟨[ah.o123 v0,Event.o79 v1,.row 123 [.d aY,.d aY,.d aY],.row 123 [.vc 0 z1.length,.vc 1 z0.length,.vc 2 z2.length]],[⟨175,6,z1.length,some (z1.map al.n9)⟩,Sub.B7 z0.length (z0.set y2.toNat y3),⟨3,1,z2.length,some (z2.map rI)⟩]⟩] rfl ⟨.e (AQ (l:=([]:List Sub)++v0.bl) (row:=Sub.row) (a:=y3) rfl rfl Iy rfl rfl Nk rfl (zaf rfl) rfl) rfl,aK.g (mh (l:=([]:List Sub)++v0.bl) (row:=Sub.row) (i:=y2) underlying120 qa wH rfl rfl rfl Af),av (en 133 rfl) rfl rfl (Dz ju),aK.g (lL (l:=([]:List Sub)++v0.bl) (row:=Sub.row) (cs:=(Sub.row (nth z0 y2.toNat))) Qv Nk rfl rfl Gb (zaf rfl) rfl),aK.g (mh (l:=([]:List Sub)++v0.bl) (row:=Sub.row) (i:=y2) underlying120 qa wH rfl rfl rfl yS),(show cr _ _=true by kernel_rfl),av (en 124 rfl) rfl rfl (rV fD)⟩ ?_;refine .ite H rfl (λH=>?_) (λH=>?_)
      ·obtain ⟨Iz,H⟩:=aq H;refine let z0:=((([]:List Int)++v0.ended)++([v1.sub]:List Int));.B 13 [.d (ai 1 rI ([v1.sub]:List Int)),.t (.vc 2 z0.length) 2 ⟨3,1,z0.length,some (z0.map rI)⟩] rfl ⟨.e (gq (l:=([]:List Int)++v0.ended) (l':=([v1.sub]:List Int)) (row:=rI) underlying121 uT xa yT rfl (by rw [F3];decide) rfl rfl rfl rfl Iz) rfl,aT underlying121 uT yT xa rfl rfl rfl rfl rfl⟩ ?_;refine .freezeCell (l:=([]:List al)++v0.aJ) (row:=al.n9) 3 0 rfl rfl rfl (.freezeCell (l:=(([]:List Sub)++v0.bl).set y2.toNat y3) (row:=Sub.row) 3 1 rfl rfl rfl (.freezeCell (l:=(([]:List Int)++v0.ended)++([v1.sub]:List Int)) (row:=rI) 3 2 rfl rfl rfl (.E 3 rfl (.R func75 results75 rfl ?_))));cases H;exact .m rfl (.ak _)
      ·refine .F 4 rfl (.freezeCell (l:=([]:List al)++v0.aJ) (row:=al.n9) 3 0 rfl rfl rfl (.freezeCell (l:=(([]:List Sub)++v0.bl).set y2.toNat y3) (row:=Sub.row) 3 1 rfl rfl rfl (.freezeCell (l:=([]:List Int)++v0.ended) (row:=rI) 3 2 rfl rfl rfl (.E 3 rfl (.R func75 results75 rfl ?_)))));cases H;exact .m rfl (.ak _)
    ·intro p7;refine .E 5 rfl (.ite H rfl (λH=>?_) (λH=>?_))
     ·exact .E 1 rfl (.z (p7 (v1.kind==14) H) rfl rfl)
     ·exact .E 4 rfl (.z (p7 (v1.kind==15) H) rfl rfl)
theorem Gn {az:List Event} {r:Int×Int} (H:rN az=some r):aD prog 45 [ai 7 Event.row az] (·=.dV [cI r.1,cI r.2]):=by
 obtain ⟨i123,Ku,Kv,T8,T9⟩:=Mc;refine aD.bc func45 rfl ntmps45 rfl λS hS=>?_
 unfold rN at H;refine .A 12 [.i (az.length:Int)] rfl (Mf.n rfl rfl) (.ite H rfl (λH=>?_) (λH=>?_))
 ·refine .E 5 rfl (.R func45 results45 rfl ?_);cases H;exact .m rfl (.kV rfl)
 ·refine .A 17 [.d (.agg (ah.row (⟨([]:List al),([]:List Sub),([]:List Int)⟩:ah))),.r 0] rfl (aK.g (aK.le (bh Md Ku Kv rfl rfl) (dX.d (.agg ⟨.nil 6,.nil 8,.nil 1,trivial⟩)))) (.lp H (λ⟨xJ,cX,dt,jY,jZ⟩=>[(0,.d (ai 7 Event.row az)),(4,.ref 0 0),(5,.d (cI xJ)),(6,.d (cI cX))]) (λ⟨xJ,cX,dt,jY,jZ⟩=>⟨[.row 123 [.d (ai 6 al.n9 dt),.d (ai 8 Sub.row jY),.d (ai 1 rI jZ)]],[]⟩) (.k4 rfl rfl rfl rfl (.nil)) rfl ?_);rintro ⟨xJ,cX,dt,jY,jZ⟩ q1 H bu
  dsimp only at H
  unfold mL at H;refine .A 8 [.i (az.length:Int)] rfl (Mf.n rfl rfl) (.ite H rfl (λH=>?_) (λH=>?_))
  ·obtain ⟨cH,H⟩:=aq H;obtain ⟨y1,cQ,H⟩:=ae H;refine .A 21 [.p 8,.d (.ro (Event.row (nth az cX.toNat))),.i y1] rfl ⟨av (en 134 rfl) rfl rfl (Gm cQ),Mf.ix rfl rfl rfl cH,(show cr _ _=true by kernel_rfl)⟩ (.ite H rfl (λH=>?_) (λH=>?_))
   ·refine .E 7 rfl (.R func45 results45 rfl ?_);cases H;cases bu;exact .m rfl (.kV rfl)
   ·obtain ⟨cY,H⟩:=aq H;obtain ⟨y2,fD,H⟩:=ae H;obtain ⟨dW,gC,H⟩:=ck2 H;refine .A 26 [.p 6,.d (.ro (Event.row (nth az cX.toNat))),.d (.agg (ah.row y2)),.d (.ro (Event.row (nth az cX.toNat))),.i (cX+1)] rfl ⟨aG rfl rfl gC,Mf.ix rfl rfl rfl dW,av (en 135 rfl) rfl rfl (zE fD),Mf.ix rfl rfl rfl cY,(show cr _ _=true by kernel_rfl)⟩ ?_;cases H;exact .z bu rfl rfl
  ·refine .E 6 rfl (.R func45 results45 rfl ?_);cases H;cases bu;exact .m rfl (.kV rfl)
theorem Kw {az:List Event} {r:Bool} (H:vv az=some r):aD prog 15 [ai 7 Event.row az] (·=cB r):=by
 refine aD.bc func15 rfl ntmps15 rfl λS hS=>?_
 unfold vv at H;refine .E 9 rfl (.bH (ι:=Unit) (λ_=>[(0,.d (ai 7 Event.row az))]) (λ_=>⟨[],[]⟩) (λs=>pR az=some r) ?_ ?_)
 ·rintro _ H;replace H:pR az=some r:=H;unfold pR at H;refine .A 7 [.i (az.length:Int)] rfl (Mf.n rfl rfl) (.ite H rfl (λH=>?_) (λH=>?_))
  ·refine .E 4 rfl (.R func15 results15 rfl ?_);cases H;exact .m rfl (.ak _)
  ·obtain ⟨y1,cQ,H⟩:=ae H;refine .A 17 [.d (.dV [cI y1.1,cI y1.2])] rfl (av (en 136 rfl) rfl rfl (Gn cQ)) (.R func15 results15 rfl ?_);cases H;exact .m rfl (.ak _)
 ·intro p7 eX;refine .lp H (λbB=>[(0,.d (ai 7 Event.row az)),(3,.d (cI bB))]) (λbB=>⟨[],[]⟩) (.k2 rfl rfl (.nil)) rfl ?_;rintro bB q1 H bu;unfold sL at H;refine .A 12 [.i (az.length:Int)] rfl ⟨rfl,rfl,Mf.n rfl rfl⟩ (.ite H rfl (λH=>?_) (λH=>?_))
  ·obtain ⟨cH,cY,H⟩:=ck2 H;refine .A 22 [.d (.ro (Event.row (nth az bB.toNat))),.i (((nth az bB.toNat).name).length:Int),.d (.ro (Event.row (nth az bB.toNat))),.i (((nth az bB.toNat).number).length:Int)] rfl ⟨rfl,rfl,λhg=>aK.g (oN underlying9 rfl),rfl,rfl,rfl,λhg=>Mf.ix rfl rfl rfl (cY hg),rfl,rfl,aK.g (oN underlying9 rfl),Mf.ix rfl rfl rfl cH⟩ (.ite H rfl (λH=>?_) (λH=>?_))
   ·refine .E 4 rfl (.R func15 results15 rfl ?_);cases H;cases bu;exact .m rfl (.ak _)
   ·obtain ⟨dW,H⟩:=aq H;refine .A 7 [.i (bB+1)] rfl (aG rfl rfl dW) ?_;cases H;exact .z bu rfl rfl
  ·refine .E 1 rfl ?_;obtain ⟨q0,H9,lz⟩:=bR H;clear H;cases lz;cases bu;have H:=H9;exact .z (eX () H) rfl rfl
theorem Ak {df:aj} {r:Bool} (H:kN df=some r):aD prog 16 [.agg (aj.row df)] (·=cB r):=by
 refine aD.bc func16 rfl ntmps16 rfl λS hS=>?_
 unfold kN at H;obtain ⟨y1,cQ,H⟩:=ae H;obtain ⟨y2,fD,H⟩:=ae H;refine .A 15 [.r 0,.b y1,.b y2] rfl ⟨rfl,λhg=>av (en 117 rfl) rfl rfl (Gi (ba fD hg)),rfl,av (en 115 rfl) rfl rfl (F9 cQ)⟩ (.R func16 results16 rfl ?_);cases H;exact .m rfl (.ak _)
theorem IF {gH dd xK r:Int} (H:tv gH dd xK=some r):aD prog 137 [cI gH,cI dd,cI xK] (·=cI r):=by
 refine aD.bc func137 rfl ntmps137 rfl λS hS=>?_
 unfold tv at H;refine .A 22 [] rfl ⟨rfl,rfl,rfl,rfl,rfl,rfl⟩ (.ite H rfl (λH=>?_) (λH=>?_))
 ·refine .E 4 rfl (.R func137 results137 rfl ?_);cases H;exact .m rfl (.ak _)
 ·refine .A 11 [] rfl ⟨rfl,rfl⟩ (.ite H rfl (λH=>?_) (λH=>?_))
  ·refine .E 4 rfl (.R func137 results137 rfl ?_);cases H;exact .m rfl (.ak _)
  ·refine .E 5 rfl (.R func137 results137 rfl ?_);cases H;exact .m rfl (.ak _)
theorem Gp {eO:Batch} {r:Int} (H:rO eO=some r):aD prog 90 [.agg (Batch.row eO)] (·=cI r):=by
 refine aD.bc func90 rfl ntmps90 rfl λS hS=>?_
 unfold rO at H;obtain ⟨y1,cQ,H⟩:=ae H;refine .A 22 [.r 0,.i y1] rfl (av (en 137 rfl) rfl rfl (IF cQ)) (.ite H rfl (λH=>?_) (λH=>?_))
 ·refine .E 5 rfl (.R func90 results90 rfl ?_);cases H;exact .m rfl (.ak _)
 ·refine .A 9 [.i (eO.records.length:Int)] rfl (fp.n rfl rfl) (.ite H rfl (λH=>?_) (λH=>?_))
  ·refine .E 4 rfl (.R func90 results90 rfl ?_);cases H;exact .m rfl (.ak _)
  ·refine .E 7 rfl (.lp H (λbO=>[(1,.ref 0 0),(4,.d (cI bO))]) (λbO=>⟨[Batch.o38 eO],[]⟩) (.k2 rfl rfl (.nil)) rfl ?_);rintro bO q1 H bu;unfold jb at H;refine .A 9 [.i (eO.records.length:Int)] rfl (fp.n rfl rfl) (.ite H rfl (λH=>?_) (λH=>?_))
   ·obtain ⟨cH,H⟩:=aq H;obtain ⟨y2,fD,H⟩:=ae H;refine .A 19 [.d (.ro (aa.row (nth eO.records bO.toNat))),.i y2] rfl ⟨av (en 97 rfl) rfl rfl (zD fD),fp.ix rfl rfl rfl cH⟩ (.ite H rfl (λH=>?_) (λH=>?_))
    ·refine .E 5 rfl (.R func90 results90 rfl ?_);cases H;cases bu;exact .m rfl (.ak _)
    ·obtain ⟨cY,H⟩:=aq H;refine .A 14 [.p 9,.d (.ro (aa.row (nth eO.records bO.toNat)))] rfl ⟨fp.ix rfl rfl rfl cY,(show cr _ _=true by kernel_rfl)⟩ (.ite H rfl (λH=>?_) (λH=>?_))
     ·refine .E 4 rfl (.R func90 results90 rfl ?_);cases H;cases bu;exact .m rfl (.ak _)
     ·obtain ⟨dW,H⟩:=aq H;refine .A 7 [.i (bO+1)] rfl (aG rfl rfl dW) ?_;cases H;exact .z bu rfl rfl
   ·refine .E 5 rfl (.R func90 results90 rfl ?_);cases H;cases bu;exact .m rfl (.ak _)
theorem IG {bM:aF} {bF r:Int} (H:tw bM bF=some r):aD prog 91 [.agg (aF.row bM),cI bF] (·=cI r):=by
 refine aD.bc func91 rfl ntmps91 rfl λS hS=>?_
 unfold tw at H;refine .A 15 [.r 0] rfl ⟨rfl,rfl⟩ (.ite H rfl (λH=>?_) (λH=>?_))
 ·refine .E 4 rfl (.R func91 results91 rfl ?_);cases H;exact .m rfl (.ak _)
 ·obtain ⟨y1,cQ,H⟩:=ae H;refine .A 12 [.i (bM.aO.length:Int),.i y1] rfl ⟨av (en 93 rfl) rfl rfl (Bh cQ),BI.n rfl rfl⟩ (.R func91 results91 rfl ?_);cases H;exact .m rfl (.ak _)
theorem E4 {nm:aa} {DK:bX} {r:Int} (H:sM nm DK=some r):aD prog 92 [.agg (aa.row nm),.agg (bX.row DK)] (·=cI r):=by
 refine aD.bc func92 rfl ntmps92 rfl λS hS=>?_
 unfold sM at H;refine .A 22 [.r 0,.r 1] rfl ⟨rfl,rfl,rfl,rfl,rfl⟩ (.ite H rfl (λH=>?_) (λH=>?_))
 ·refine .E 4 rfl (.R func92 results92 rfl ?_);cases H;exact .m rfl (.ak _)
 ·refine .E 5 rfl (.R func92 results92 rfl ?_);cases H;exact .m rfl (.ak _)
theorem Kx {v0:List Range} {v1 v2:Int} {r:(List Range)×Bool} (H:vz v0 v1 v2=some r):aD prog 93 [ai 3 Range.row v0,cI v1,cI v2] (·=.dV [ai 3 Range.row r.1,cB r.2]):=by
 obtain ⟨i106,mV,xP,oC,Kp⟩:=qu;refine aD.bc func93 rfl ntmps93 rfl λS hS=>?_
 unfold vz at H;obtain ⟨y1,cQ,H⟩:=ae H;obtain ⟨y2,fD,H⟩:=ae H;refine .A 19 [.b y1,.b y2] rfl ⟨rfl,λhg=>av (en 109 rfl) rfl rfl (xX (ba fD hg)),rfl,rfl,rfl,av (en 94 rfl) rfl rfl (nB cQ)⟩ (.ite H rfl (λH=>?_) (λH=>?_))
 ·refine .E 5 rfl (.R func93 results93 rfl ?_);cases H;exact .m rfl (.qq ⟨.nil 3,.ak _,trivial⟩)
 ·refine .A 23 [.d (.agg (Range.row (⟨v1,v2,v2⟩:Range))),.r 0] rfl (aK.g (bh Qy mV xP rfl rfl)) (.tok (i:=8) (e:=106) (sz:=3) rfl (.bH (ι:=List Range×Bool×Int×Int) (λ⟨F0,Ha,wB,wC⟩=>[(8,.cz 3 (F0.map Range.row) 0),(9,.ref 0 0),(10,.d (cB Ha))]) (λ⟨F0,Ha,wB,wC⟩=>⟨[.row 106 [.d (cI v1),.d (cI wB),.d (cI wC)]],[ni F0.length]⟩) (λs=>pS v1 s.1 s.2.1 s.2.2.1 s.2.2.2=some r) ?_ ?_))
  ·rintro ⟨F0,Ha,wB,wC⟩ H;replace H:pS v1 F0 Ha wB wC=some r:=H;unfold pS at H;refine .E 6 rfl (.ite H rfl (λH=>?_) (λH=>?_))
   ·obtain ⟨cH,H⟩:=aq H;refine .A 13 [.d (ai 3 Range.row ([(⟨v1,wB,wC⟩:Range)]:List Range)),.a 0 106 3 Range.row (F0++([(⟨v1,wB,wC⟩:Range)]:List Range))] rfl ⟨wu.a rfl rfl rfl rfl cH,aT underlying22 mV oC xP rfl rfl rfl rfl rfl⟩ (.R func93 results93 rfl ?_);cases H;exact .m rfl (.qq ⟨.cz _ _ _,.ak _,trivial⟩)
   ·refine .E 7 rfl (.R func93 results93 rfl ?_);cases H;exact .m rfl (.qq ⟨.cz _ _ _,.ak _,trivial⟩)
  ·intro p7 eX;refine .lp H (λ⟨aZ,bG,aX,jY,jZ⟩=>[(0,.d (ai 3 Range.row v0)),(1,.d (cI v1)),(2,.d (cI v2)),(8,.cz 3 (aZ.map Range.row) 0),(9,.ref 0 0),(10,.d (cB bG)),(11,.d (cI aX))]) (λ⟨aZ,bG,aX,jY,jZ⟩=>⟨[.row 106 [.d (cI v1),.d (cI jY),.d (cI jZ)]],[ni aZ.length]⟩) (.k7 rfl rfl rfl rfl rfl rfl rfl (.nil)) rfl ?_;rintro ⟨aZ,bG,aX,jY,jZ⟩ q1 H bu
   dsimp only at H
   unfold sN at H;refine .A 8 [.i (v0.length:Int)] rfl (wu.n rfl rfl) (.ite H rfl (λH=>?_) (λH=>?_))
   ·obtain ⟨cY,dW,H⟩:=ck2 H;refine .A 28 [.d (.ro (Range.row (nth v0 aX.toNat))),.r 1,.i (((nth v0 aX.toNat).iu)+1)] rfl ⟨rfl,rfl,rfl,λhg=>aG rfl rfl (dW hg),rfl,rfl,wu.ix rfl rfl rfl cY⟩ (.ite H rfl (λH=>?_) (λH=>?_))
    ·obtain ⟨gC,H⟩:=aq H;refine .A 13 [.i (aX+1)] rfl (aG rfl rfl gC) ?_;cases H;exact .t 1 1 bu rfl rfl rfl rfl rfl hS rfl
    ·obtain ⟨j5,H⟩:=aq H;refine .A 15 [.i ((nth v0 aX.toNat).from_ - 1)] rfl ⟨rfl,rfl,rfl,λhg=>gF rfl rfl (j5 hg),rfl,rfl⟩ (.ite H rfl (λH=>?_) (λH=>?_))
     ·obtain ⟨pb,H⟩:=aq H;refine .A 13 [.i (aX+1)] rfl (aG rfl rfl pb) ?_;cases H;exact .t 1 1 bu rfl rfl rfl rfl rfl hS rfl
     ·refine .B 19 [] rfl ⟨rfl,rfl,rfl,rfl,rfl,rfl,rfl,rfl,rfl,rfl,rfl⟩ (.gE (env':=[(85,_),(89,_)]) rfl rfl rfl ⟨.inr (.inl rfl),⟨.inr (.inr ⟨_,_,rfl,rfl⟩),trivial⟩⟩ rfl (λhg=>aK.g (dv rfl rfl rfl)) (.A 3 [] rfl rfl (.ite H rfl (λH=>?_) (λH=>?_))))
      ·obtain ⟨uS,yS,H⟩:=ck2 H;refine .A 14 [.d (ai 3 Range.row ([nth v0 aX.toNat]:List Range)),.a 0 106 3 Range.row (aZ++([nth v0 aX.toNat]:List Range)),.i (aX+1)] rfl ⟨aG rfl rfl yS,wu.a rfl rfl rfl rfl uS,aT underlying22 mV oC xP rfl rfl rfl rfl rfl⟩ ?_;cases H;exact .t 1 1 bu rfl rfl rfl rfl rfl hS rfl
      ·obtain ⟨Gb,Af,H⟩:=ck2 H;refine .A 19 [.d (ai 3 Range.row ([(⟨v1,jY,jZ⟩:Range),nth v0 aX.toNat]:List Range)),.a 0 106 3 Range.row (aZ++([(⟨v1,jY,jZ⟩:Range),nth v0 aX.toNat]:List Range)),.i (aX+1)] rfl ⟨aG rfl rfl Af,wu.a rfl rfl rfl rfl Gb,gA (n:=2) (rows:=([(⟨v1,jY,jZ⟩:Range),nth v0 aX.toNat]:List Range).map Range.row) underlying22 mV oC xP rfl rfl rfl rfl rfl⟩ ?_;cases H;exact .t 1 1 bu rfl rfl rfl rfl rfl hS rfl
   ·refine .E 1 rfl ?_;obtain ⟨q0,H9,lz⟩:=bR H;clear H;cases lz;cases bu;have H:=H9;exact .z (eX (aZ,bG,jY,jZ) H) rfl rfl
theorem E5 {db:List aa} {FJ:aa} {r:(List aa)} (H:pT db FJ=some r):aD prog 138 [ai 12 aa.row db,.agg (aa.row FJ)] (·=ai 12 aa.row r):=by
 obtain ⟨i58,ei,fm,e9,qd⟩:=gG;refine aD.bc func138 rfl ntmps138 rfl λS hS=>?_
 unfold pT at H;refine .A 18 [.r 0] rfl trivial (.tok (i:=5) (e:=58) (sz:=12) rfl (.bH (ι:=List aa×Bool) (λ⟨rb,vA⟩=>[(3,.ref 0 0),(5,.cz 12 (rb.map aa.row) 0),(6,.d (cB vA))]) (λ⟨rb,vA⟩=>⟨[aa.o58 FJ],[bo rb.length]⟩) (λs=>lJ FJ s.1 s.2=some r) ?_ ?_))
 ·rintro ⟨rb,vA⟩ H;replace H:lJ FJ rb vA=some r:=H;unfold lJ at H;refine .E 6 rfl (.ite H rfl (λH=>?_) (λH=>?_))
  ·obtain ⟨cH,H⟩:=aq H;refine .A 12 [.d (ai 12 aa.row ([FJ]:List aa)),.a 0 58 12 aa.row (rb++([FJ]:List aa))] rfl ⟨fp.a rfl rfl rfl rfl cH,aT underlying23 ei e9 fm rfl rfl rfl rfl rfl⟩ (.R func138 results138 rfl ?_);cases H;exact .m rfl (.cz _ _ _)
  ·refine .E 6 rfl (.R func138 results138 rfl ?_);cases H;exact .m rfl (.cz _ _ _)
 ·intro p7 eX;refine .lp H (λ⟨dr,mM,eo⟩=>[(0,.d (ai 12 aa.row db)),(3,.ref 0 0),(5,.cz 12 (dr.map aa.row) 0),(6,.d (cB mM)),(7,.d (cI eo))]) (λ⟨dr,mM,eo⟩=>⟨[aa.o58 FJ],[bo dr.length]⟩) (.k5 rfl rfl rfl rfl rfl (.nil)) rfl ?_;rintro ⟨dr,mM,eo⟩ q1 H bu
  dsimp only at H
  unfold oK at H;refine .A 8 [.i (db.length:Int)] rfl (fp.n rfl rfl) (.ite H rfl (λH=>?_) (λH=>?_))
  ·refine .E 3 rfl (.jg (ι:=List aa×Bool) (λ⟨sO,vB⟩=>[(0,.d (ai 12 aa.row db)),(3,.ref 0 0),(5,.cz 12 (sO.map aa.row) 0),(6,.d (cB vB)),(7,.d (cI eo))]) (λ⟨sO,vB⟩=>⟨[aa.o58 FJ],[bo sO.length]⟩) (λs=>js db eo s.1 s.2=some q1) ?_ ?_)
   ·rintro ⟨sO,vB⟩ H;replace H:js db eo sO vB=some q1:=H;unfold js at H;obtain ⟨cY,dW,gC,H⟩:=ck3 H;refine .A 16 [.d (.ro (aa.row (nth db eo.toNat))),.d (ai 12 aa.row ([nth db eo.toNat]:List aa)),.a 0 58 12 aa.row (sO++([nth db eo.toNat]:List aa)),.i (eo+1)] rfl ⟨aG rfl rfl gC,fp.a rfl rfl rfl rfl dW,aT underlying23 ei e9 fm rfl rfl rfl rfl rfl,fp.ix rfl rfl rfl cY⟩ ?_;cases H;exact .z bu rfl rfl
   ·intro A8;obtain ⟨j5,H⟩:=aq H;obtain ⟨y1,cQ,H⟩:=ae H;refine .A 14 [.p 10,.d (.ro (aa.row (nth db eo.toNat))),.b y1] rfl ⟨rfl,λhg=>av (en 104 rfl) rfl rfl (xV (ba cQ hg)),rfl,rfl,rfl,λhg=>fp.ix rfl rfl rfl (j5 hg),rfl,rfl,(show cr _ _=true by kernel_rfl)⟩ (.ite H rfl (λH=>?_) (λH=>?_))
    ·obtain ⟨pb,H⟩:=aq H;exact .A 11 [.d (ai 12 aa.row ([FJ]:List aa)),.a 0 58 12 aa.row (dr++([FJ]:List aa))] rfl ⟨fp.a rfl rfl rfl rfl pb,aT underlying23 ei e9 fm rfl rfl rfl rfl rfl⟩ (.z (A8 (dr++([FJ]:List aa),true) H) rfl rfl)
    ·exact .E 1 rfl (.z (A8 (dr,mM) H) rfl rfl)
  ·refine .E 1 rfl ?_;obtain ⟨q0,H9,lz⟩:=bR H;clear H;cases lz;cases bu;have H:=H9;exact .z (eX (dr,mM) H) rfl rfl
theorem IH {v0 v1:List aa} {r:(List aa)×(List aa)} (H:tx v0 v1=some r):aD prog 94 [ai 12 aa.row v0,ai 12 aa.row v1] (·=.dV [ai 12 aa.row r.1,ai 12 aa.row r.2]):=by
 obtain ⟨i58,ei,fm,e9,qd⟩:=gG;refine aD.bc func94 rfl ntmps94 rfl λS hS=>?_
 unfold tx at H;obtain ⟨cH,H⟩:=aq H;refine .A 22 [.d (.e0 12),.d (ai 12 aa.row v0)] rfl ⟨Ef (l':=v0) (row:=aa.row) underlying23 ei fm e9 rfl (by rw [qd];decide) rfl (.inl rfl) rfl rfl cH,(e9▸dJ underlying23 ei)⟩ ?_;refine .tok (i:=6) (e:=58) (sz:=12) rfl (.lp H (λ⟨sI,fF,aZ⟩=>[(1,.d (ai 12 aa.row v1)),(6,.cz 12 (sI.map aa.row) 0),(7,.d (ai 12 aa.row fF)),(8,.d (cI aZ))]) (λ⟨sI,fF,aZ⟩=>⟨[],[bo sI.length]⟩) (.k4 rfl rfl rfl rfl (.nil)) rfl ?_);rintro ⟨sI,fF,aZ⟩ q1 H bu
 dsimp only at H
 unfold rf at H;refine .A 8 [.i (v1.length:Int)] rfl (fp.n rfl rfl) (.ite H rfl (λH=>?_) (λH=>?_))
 ·obtain ⟨cY,H⟩:=aq H;refine .A 13 [.d (.ro (aa.row (nth v1 aZ.toNat)))] rfl (fp.ix rfl rfl rfl cY) (.ite H rfl (λH=>?_) (λH=>?_))
  ·obtain ⟨dW,gC,j5,H⟩:=ck3 H;refine .A 17 [.d (.ro (aa.row (nth v1 aZ.toNat))),.d (ai 12 aa.row ([nth v1 aZ.toNat]:List aa)),.a 0 58 12 aa.row (sI++([nth v1 aZ.toNat]:List aa)),.i (aZ+1)] rfl ⟨aG rfl rfl j5,fp.a rfl rfl rfl rfl gC,aT underlying23 ei e9 fm rfl rfl rfl rfl rfl,fp.ix rfl rfl rfl dW⟩ ?_;cases H;exact .z bu rfl rfl
  ·obtain ⟨pb,H⟩:=aq H;obtain ⟨y1,cQ,H⟩:=ae H;refine .A 12 [.d (.ro (aa.row (nth v1 aZ.toNat))),.d (ai 12 aa.row y1)] rfl ⟨av (en 138 rfl) rfl rfl (E5 cQ),fp.ix rfl rfl rfl pb⟩ (.lp H (λ⟨oV,Mj⟩=>[(1,.d (ai 12 aa.row v1)),(6,.cz 12 (oV.map aa.row) 0),(7,.d (ai 12 aa.row Mj)),(8,.d (cI aZ))]) (λ⟨oV,Mj⟩=>⟨[],[bo oV.length]⟩) (.k4 rfl rfl rfl rfl (.nil)) rfl ?_);rintro ⟨oV,Mj⟩ q2 H BK
   dsimp only at H
   unfold re at H;obtain ⟨uS,H⟩:=aq H;obtain ⟨y2,fD,H⟩:=ae H;obtain ⟨y3,ju,H⟩:=ae H;obtain ⟨y4,nU,H⟩:=ae H;refine .A 34 [.d (.ro (aa.row (nth v1 aZ.toNat))),.d (ai 1 rI y2),.d (.dV [ai 12 aa.row y3.1,ai 12 aa.row y3.2]),.d (.dV [.agg (aa.row y4.1),cB y4.2]),.r 0] rfl ⟨av (en 101 rfl) rfl rfl (vH nU),av (en 102 rfl) rfl rfl (Bj ju),av (en 103 rfl) rfl rfl (xW fD),fp.ix rfl rfl rfl uS⟩ (.ite H rfl (λH=>?_) (λH=>?_))
   ·obtain ⟨yS,H⟩:=aq H;refine .A 7 [.i (aZ+1)] rfl (aG rfl rfl yS) ?_;cases H;cases BK;exact .t 0 1 bu rfl rfl rfl rfl rfl hS rfl
   ·obtain ⟨Gb,H⟩:=aq H;refine .A 14 [.d (ai 12 aa.row ([y4.1]:List aa)),.a 0 58 12 aa.row (oV++([y4.1]:List aa))] rfl ⟨fp.a rfl rfl rfl rfl Gb,aT underlying23 ei e9 fm rfl rfl rfl rfl rfl⟩ ?_;cases H;exact .t 0 1 BK rfl rfl rfl rfl rfl hS rfl
 ·refine .E 8 rfl (.R func94 results94 rfl ?_);cases H;cases bu;exact .m rfl (.qq ⟨.cz _ _ _,.ak _,trivial⟩)
theorem E6 {v0:aF} {v1:Batch} {v2:bX} {r:aF×(List aa)×(List ag)×Int} (H:pU v0 v1 v2=some r):aD prog 50 [.agg (aF.row v0),.agg (Batch.row v1),.agg (bX.row v2)] (·=.dV [.agg (aF.row r.1),ai 12 aa.row r.2.1,ai 4 ag.row r.2.2.1,cI r.2.2.2]):=by
 obtain ⟨i26,yW,yX,OW,OX⟩:=Ey;obtain ⟨i58,ei,fm,e9,qd⟩:=gG;obtain ⟨i66,yR,Ad,Cq,Ko⟩:=CV;obtain ⟨i76,Dq,Iw,Ix,SO⟩:=Ez;obtain ⟨i106,mV,xP,oC,Kp⟩:=qu;refine aD.bc func50 rfl ntmps50 rfl λS hS=>?_
 unfold pU at H;obtain ⟨y1,cQ,H⟩:=ae H;refine .A 22 [.r 0,.r 1,.r 2,.r 3,.i y1] rfl (av (en 139 rfl) rfl rfl (Gp cQ)) (.ite H rfl (λH=>?_) (λH=>?_))
 ·refine .A 9 [.d (.agg (aF.row kq3))] rfl (aK.g (aK.le (bh zq yW yX rfl rfl) (dX.d (.agg ⟨.nil 3,.nil 12,.nil 4,trivial⟩)))) (.R func50 results50 rfl ?_);cases H;exact .m rfl (.qq ⟨.ak _,.nil 12,.nil 4,.ak _,trivial⟩)
 ·obtain ⟨y2,fD,H⟩:=ae H;refine .A 13 [.p 7,.i y2] rfl ⟨av (en 140 rfl) rfl rfl (IG fD),(show cr _ _=true by kernel_rfl)⟩ (.ite H rfl (λH=>?_) (λH=>?_))
  ·refine .A 8 [.d (.agg (aF.row kq3))] rfl (aK.g (aK.le (bh zq yW yX rfl rfl) (dX.d (.agg ⟨.nil 3,.nil 12,.nil 4,trivial⟩)))) (.R func50 results50 rfl ?_);cases H;exact .m rfl (.qq ⟨.ak _,.nil 12,.nil 4,.ak _,trivial⟩)
  ·obtain ⟨cH,H⟩:=aq H;refine .A 22 [.d (.e0 3),.d (ai 3 Range.row v0.seen)] rfl ⟨Ef (l':=v0.seen) (row:=Range.row) underlying22 mV xP oC rfl (by rw [Kp];decide) rfl (.inl rfl) rfl rfl cH,(oC▸dJ underlying22 mV)⟩ ?_;refine .tok (i:=12) (e:=58) (sz:=12) rfl (.tok (i:=13) (e:=66) (sz:=4) rfl (.bH (ι:=List Range×List aa×List ag) (λ⟨EI,EJ,lf⟩=>[(3,.ref 0 0),(4,.ref 1 0),(6,.ref 3 0),(11,.d (ai 3 Range.row EI)),(12,.cz 12 (EJ.map aa.row) 0),(13,.cz 4 (lf.map ag.row) 1)]) (λ⟨EI,EJ,lf⟩=>⟨[aF.o26 v0,Batch.o38 v1,.row 40 [.d (cI v2.eA),.d (cI v2.iO)],.row 26 [.d aY,.d aY,.d aY]],[bo EJ.length,oR lf.length]⟩) (λs=>lK v0 v1 s.1 s.2.1 s.2.2=some r) ?_ ?_))
   ·rintro ⟨EI,EJ,lf⟩ H;replace H:lK v0 v1 EI EJ lf=some r:=H;unfold lK at H;obtain ⟨y3,ju,H⟩:=ae H;obtain ⟨cY,dW,H⟩:=ck2 H;refine let z0:=(([]:List Head)++v0.aO);.A 50 [.d (.dV [ai 12 aa.row y3.1,ai 12 aa.row y3.2]),.n (.cz 4 (([]:List Head).map Head.row) 2) (B6 ([]:List Head).length),.a 2 76 4 Head.row z0,.i (v1.records.length:Int),.d (.agg (Head.row (⟨v1.source,v1.number,v1.format,(v1.records.length:Int)⟩:Head))),.d (ai 4 Head.row ([(⟨v1.source,v1.number,v1.format,(v1.records.length:Int)⟩:Head)]:List Head)),.a 2 76 4 Head.row (z0++([(⟨v1.source,v1.number,v1.format,(v1.records.length:Int)⟩:Head)]:List Head)),.d (.agg (aF.row (⟨EI,y3.2,z0++([(⟨v1.source,v1.number,v1.format,(v1.records.length:Int)⟩:Head)]:List Head)⟩:aF)))] rfl ⟨aK.g (bh zq yW yX rfl rfl),BI.a rfl rfl rfl rfl dW,aT underlying24 Dq Ix Iw rfl rfl rfl rfl rfl,aK.g (bh Qx Dq Iw rfl rfl),fp.n rfl rfl,BI.a rfl rfl rfl rfl cY,.e (ve underlying24 Dq Ix) rfl,av (en 141 rfl) rfl rfl (IH ju)⟩ ?_;refine .R func50 results50 rfl ?_;cases H;exact .m rfl (.qq ⟨.ak _,.ak _,.cz _ _ _,.ak _,trivial⟩)
   ·intro p7 eX;refine .lp H (λ⟨aX,qi,bt,eW⟩=>[(3,.ref 0 0),(4,.ref 1 0),(5,.ref 2 0),(6,.ref 3 0),(11,.d (ai 3 Range.row aX)),(12,.cz 12 (qi.map aa.row) 0),(13,.cz 4 (bt.map ag.row) 1),(14,.d (cI eW))]) (λ⟨aX,qi,bt,eW⟩=>⟨[aF.o26 v0,Batch.o38 v1,.row 40 [.d (cI v2.eA),.d (cI v2.iO)],.row 26 [.d aY,.d aY,.d aY]],[bo qi.length,oR bt.length]⟩) (.k8 rfl rfl rfl rfl rfl rfl rfl rfl (.nil)) rfl ?_;rintro ⟨aX,qi,bt,eW⟩ q1 H bu
    dsimp only at H
    unfold oL at H;refine .A 9 [.i (v1.records.length:Int)] rfl (fp.n rfl rfl) (.ite H rfl (λH=>?_) (λH=>?_))
    ·obtain ⟨gC,H⟩:=aq H;obtain ⟨y4,nU,H⟩:=ae H;refine .A 20 [.d (.ro (aa.row (nth v1.records eW.toNat))),.r 4,.i y4] rfl ⟨av (en 142 rfl) rfl rfl (E4 nU),fp.ix rfl rfl rfl gC⟩ (.jg (ι:=Int) (λzy=>[(3,.ref 0 0),(4,.ref 1 0),(5,.ref 2 0),(6,.ref 3 0),(11,.d (ai 3 Range.row aX)),(12,.cz 12 (qi.map aa.row) 0),(13,.cz 4 (bt.map ag.row) 1),(14,.d (cI eW)),(15,.ref 4 0),(16,.d (cI zy))]) (λzy=>⟨[aF.o26 v0,Batch.o38 v1,.row 40 [.d (cI v2.eA),.d (cI v2.iO)],.row 26 [.d aY,.d aY,.d aY],aa.o58 (nth v1.records eW.toNat)],[bo qi.length,oR bt.length]⟩) (λs=>hZ v1 aX qi bt eW s=some q1) ?_ ?_)
     ·rintro zy H;replace H:hZ v1 aX qi bt eW zy=some q1:=H;unfold hZ at H;obtain ⟨j5,pb,H⟩:=ck2 H;refine .A 19 [.d (.agg (ag.row (⟨(nth v1.records eW.toNat).source,(nth v1.records eW.toNat).aI,eW,zy⟩:ag))),.d (ai 4 ag.row ([(⟨(nth v1.records eW.toNat).source,(nth v1.records eW.toNat).aI,eW,zy⟩:ag)]:List ag)),.a 1 66 4 ag.row (bt++([(⟨(nth v1.records eW.toNat).source,(nth v1.records eW.toNat).aI,eW,zy⟩:ag)]:List ag)),.i (eW+1)] rfl ⟨aG rfl rfl pb,Ic.a rfl rfl rfl rfl j5,aT underlying28 yR Cq Ad rfl rfl rfl rfl rfl,aK.g (bh Qw yR Ad rfl rfl)⟩ ?_;cases H;exact .t 4 2 bu rfl rfl rfl rfl rfl hS rfl
     ·intro A8;refine .E 5 rfl (.ite H rfl (λH=>?_) (λH=>?_))
      ·obtain ⟨y5,uR,H⟩:=ae H;refine .A 19 [.d (.dV [ai 3 Range.row y5.1,cB y5.2])] rfl (av (en 143 rfl) rfl rfl (Kx uR)) (.ite H rfl (λH=>?_) (λH=>?_))
       ·obtain ⟨uS,yS,H⟩:=ck2 H;refine .A 19 [.d (ai 12 aa.row ([nth v1.records eW.toNat]:List aa)),.a 0 58 12 aa.row (qi++([nth v1.records eW.toNat]:List aa)),.i (eW+1)] rfl ⟨aG rfl rfl yS,fp.a rfl rfl rfl rfl uS,aT underlying23 ei e9 fm rfl rfl rfl rfl rfl⟩ ?_;cases H;exact .t 4 2 bu rfl rfl rfl rfl rfl hS rfl
       ·exact .E 4 rfl (.z (A8 13 H) rfl rfl)
      ·exact .E 1 rfl (.z (A8 y4 H) rfl rfl)
    ·refine .E 1 rfl ?_;obtain ⟨q0,H9,lz⟩:=bR H;clear H;cases lz;cases bu;have H:=H9;exact .z (eX (aX,qi,bt) H) rfl rfl
theorem Bo {az:List Event} {FI:Int} {r:ah} (H:qK az FI=some r):aD prog 98 [ai 7 Event.row az,cI FI] (·=.agg (ah.row r)):=by
 obtain ⟨i123,Ku,Kv,T8,T9⟩:=Mc;refine aD.bc func98 rfl ntmps98 rfl λS hS=>?_
 unfold qK at H;refine .A 16 [.r 0,.d (.agg (ah.row (⟨([]:List al),([]:List Sub),([]:List Int)⟩:ah))),.r 1] rfl (aK.g (aK.le (bh Md Ku Kv rfl rfl) (dX.d (.agg ⟨.nil 6,.nil 8,.nil 1,trivial⟩)))) (.lp H (λ⟨cX,cw,pL,pM⟩=>[(0,.d (ai 7 Event.row az)),(1,.d (cI FI)),(4,.ref 0 0),(5,.ref 1 0),(6,.d (cI cX))]) (λ⟨cX,cw,pL,pM⟩=>⟨[.row 123 [.d aY,.d aY,.d aY],.row 123 [.d (ai 6 al.n9 cw),.d (ai 8 Sub.row pL),.d (ai 1 rI pM)]],[]⟩) (.k5 rfl rfl rfl rfl rfl (.nil)) rfl ?_);rintro ⟨cX,cw,pL,pM⟩ q1 H bu
 dsimp only at H
 unfold oz at H;refine .A 8 [.i (az.length:Int)] rfl (Mf.n rfl rfl) (.ite H rfl (λH=>?_) (λH=>?_))
 ·obtain ⟨cH,H⟩:=aq H;refine .A 13 [.d (.ro (Event.row (nth az cX.toNat)))] rfl (Mf.ix rfl rfl rfl cH) (.ite H rfl (λH=>?_) (λH=>?_))
  ·obtain ⟨cY,H⟩:=aq H;obtain ⟨y1,cQ,H⟩:=ae H;obtain ⟨dW,H⟩:=aq H;refine .A 16 [.p 6,.d (.ro (Event.row (nth az cX.toNat))),.d (.agg (ah.row y1)),.i (cX+1)] rfl ⟨aG rfl rfl dW,av (en 135 rfl) rfl rfl (zE cQ),Mf.ix rfl rfl rfl cY,(show cr _ _=true by kernel_rfl)⟩ ?_;cases H;exact .z bu rfl rfl
  ·obtain ⟨gC,H⟩:=aq H;refine .A 7 [.i (cX+1)] rfl (aG rfl rfl gC) ?_;cases H;exact .z bu rfl rfl
 ·refine .E 6 rfl (.R func98 results98 rfl ?_);cases H;cases bu;exact .m rfl (.ak _)
theorem Gq {v0:List Event} {v1:Int} {r:b7} (H:rP v0 v1=some r):aD prog 96 [ai 7 Event.row v0,cI v1] (·=.agg (b7.row r)):=by
 obtain ⟨i3,uT,xa,yT,F3⟩:=AW;obtain ⟨i98,qa,tM,wH,Gc⟩:=CW;obtain ⟨i147,Zl,Zm,hs147,hb147⟩:=Vy;obtain ⟨i175,qb,sx,wY,He⟩:=EB;refine aD.bc func96 rfl ntmps96 rfl λS hS=>?_
 unfold rP at H;obtain ⟨y1,cQ,H⟩:=ae H;refine .A 23 [.r 0,.d (.agg (ah.row y1)),.r 1,.d (.agg [aY,aY]),.r 2] rfl ⟨aK.g (bh VL Zl Zm rfl rfl),av (en 144 rfl) rfl rfl (Bo cQ)⟩ (.qU (o:=2) (ci:=1) (e:=98) (sz:=8) rfl rfl (.bH (ι:=List Sub) (λfZ=>[(4,.ref 0 0),(5,.ref 1 0),(6,.ref 2 0)]) (λfZ=>⟨[.row 147 [.d aY,.d aY],ah.o123 y1,.row 147 [.d aY,.cz 8 (fZ.map Sub.row) 0]],[nQ fZ.length]⟩) (λs=>kO y1 s=some r) ?_ ?_))
 ·rintro fZ H;replace H:kO y1 fZ=some r:=H;unfold kO at H;refine .E 6 rfl (.qU (o:=2) (ci:=0) (e:=175) (sz:=6) rfl rfl (.lp H (λ⟨uO,bQ⟩=>[(4,.ref 0 0),(5,.ref 1 0),(6,.ref 2 0),(9,.d (cI uO))]) (λ⟨uO,bQ⟩=>⟨[.row 147 [.d aY,.d aY],ah.o123 y1,.row 147 [.cz 6 (bQ.map al.row) 1,.cz 8 (fZ.map Sub.row) 0]],[nQ fZ.length,DJ bQ.length]⟩) (.k4 rfl rfl rfl rfl (.nil)) rfl ?_));rintro ⟨uO,bQ⟩ q1 H bu
  dsimp only at H
  unfold pX at H;refine .A 15 [.i (bQ.length:Int),.i (y1.aJ.length:Int)] rfl ⟨rfl,rfl,rfl,λhg=>Ie.n rfl rfl,rfl,rfl,λhg=>Ie.n rfl rfl,rfl,rfl⟩ (.ite H rfl (λH=>?_) (λH=>?_))
  ·obtain ⟨y2,fD,H⟩:=ae H;refine .A 16 [.i y2] rfl (av (en 123 rfl) rfl rfl (si fD)) (.ite H rfl (λH=>?_) (λH=>?_))
   ·obtain ⟨cH,H⟩:=aq H;refine .A 6 [.i (uO+1)] rfl (aG rfl rfl cH) ?_;cases H;exact .z bu rfl rfl
   ·obtain ⟨cY,H⟩:=aq H;refine .A 16 [.d (.ro (al.n9 (nth y1.aJ y2.toNat))),.r 3] rfl (Ie.ix rfl rfl rfl cY) (.bH (ι:=List Int) (λwD=>[(4,.ref 0 0),(5,.ref 1 0),(6,.ref 2 0),(9,.d (cI uO)),(11,.ref 3 0)]) (λwD=>⟨[.row 147 [.d aY,.d aY],ah.o123 y1,.row 147 [.cz 6 (bQ.map al.row) 1,.cz 8 (fZ.map Sub.row) 0],.row 175 [.d (cI (nth y1.aJ y2.toNat).id),.d (cI (nth y1.aJ y2.toNat).since),.d (cI (nth y1.aJ y2.toNat).anchor),.d (cB (nth y1.aJ y2.toNat).fH),.d (cB (nth y1.aJ y2.toNat).closed),.d (ai 1 rI wD)]],[nQ fZ.length,DJ bQ.length]⟩) (λs=>mN y1 uO bQ y2 s=some q1) ?_ ?_)
    ·rintro wD H;replace H:mN y1 uO bQ y2 wD=some q1:=H;unfold mN at H;obtain ⟨dW,gC,H⟩:=ck2 H;refine .A 15 [.d (ai 6 al.row ([(⟨(nth y1.aJ y2.toNat).id,(nth y1.aJ y2.toNat).since,(nth y1.aJ y2.toNat).anchor,(nth y1.aJ y2.toNat).fH,(nth y1.aJ y2.toNat).closed,wD⟩:al)]:List al)),.a 1 175 6 al.row (bQ++([(⟨(nth y1.aJ y2.toNat).id,(nth y1.aJ y2.toNat).since,(nth y1.aJ y2.toNat).anchor,(nth y1.aJ y2.toNat).fH,(nth y1.aJ y2.toNat).closed,wD⟩:al)]:List al)),.i (uO+1)] rfl ⟨aG rfl rfl gC,Ie.a rfl rfl rfl rfl dW,aT underlying119 qb wY sx rfl rfl rfl rfl rfl⟩ ?_;cases H;exact .t 3 2 bu rfl rfl rfl rfl rfl hS rfl
    ·intro A8 Mr;refine .Ex (o:=3) (ci:=5) (e:=3) (sz:=1) rfl rfl (.lp H (λ⟨nG,tz⟩=>[(4,.ref 0 0),(5,.ref 1 0),(6,.ref 2 0),(9,.d (cI uO)),(11,.ref 3 0),(12,.d (cI nG))]) (λ⟨nG,tz⟩=>⟨[.row 147 [.d aY,.d aY],ah.o123 y1,.row 147 [.cz 6 (bQ.map al.row) 1,.cz 8 (fZ.map Sub.row) 0],.row 175 [.d (cI (nth y1.aJ y2.toNat).id),.d (cI (nth y1.aJ y2.toNat).since),.d (cI (nth y1.aJ y2.toNat).anchor),.d (cB (nth y1.aJ y2.toNat).fH),.d (cB (nth y1.aJ y2.toNat).closed),.cz 1 (tz.map rI) 2]],[nQ fZ.length,DJ bQ.length,G2 tz.length]⟩) (.k6 rfl rfl rfl rfl rfl rfl (.nil)) rfl ?_);rintro ⟨nG,tz⟩ q2 H BK
     dsimp only at H
     unfold pV at H;refine .A 9 [.i (fZ.length:Int)] rfl (tg.n rfl rfl) (.ite H rfl (λH=>?_) (λH=>?_))
     ·obtain ⟨j5,H⟩:=aq H;refine .A 14 [.d (.ro (Sub.row (nth fZ nG.toNat)))] rfl (tg.ix rfl rfl rfl j5) (.ite H rfl (λH=>?_) (λH=>?_))
      ·obtain ⟨pb,uS,yS,H⟩:=ck3 H;refine .A 21 [.p 9,.d (.ro (Sub.row (nth fZ nG.toNat))),.d (ai 1 rI ([(nth fZ nG.toNat).id]:List Int)),.a 2 3 1 rI (tz++([(nth fZ nG.toNat).id]:List Int)),.i (nG+1)] rfl ⟨aG rfl rfl yS,r7.a rfl rfl rfl rfl uS,aT underlying121 uT yT xa rfl rfl rfl rfl rfl,tg.ix rfl rfl rfl pb,(show cr _ _=true by kernel_rfl)⟩ ?_;cases H;exact .z BK rfl rfl
      ·obtain ⟨Gb,H⟩:=aq H;refine .A 7 [.i (nG+1)] rfl (aG rfl rfl Gb) ?_;cases H;exact .z BK rfl rfl
     ·refine .E 1 rfl ?_;obtain ⟨q0,H9,lz⟩:=bR H;clear H;cases lz;cases BK;have H:=H9;exact .nN 3 5 rfl rfl (.cz _ _ _) (.t 4 2 (Mr tz H) rfl rfl rfl rfl rfl hS rfl)
  ·refine .F 3 rfl (.nN 2 0 rfl rfl (.cz _ _ _) (.nN 2 1 rfl rfl (.cz _ _ _) (.E 3 rfl (.R func96 results96 rfl ?_))));cases H;cases bu;exact .m rfl (.ak _)
 ·intro p7 eX;obtain ⟨n3,H⟩:=fq H;refine .loop (ι:=Nat×(Int×List Sub)) (λ⟨_,Ab,pY⟩=>[(4,.ref 0 0),(5,.ref 1 0),(6,.ref 2 0),(7,.d (cI Ab))]) (λ⟨_,Ab,pY⟩=>⟨[.row 147 [.d aY,.d aY],ah.o123 y1,.row 147 [.d aY,.cz 8 (pY.map Sub.row) 0]],[nQ pY.length]⟩) (λp=>iter (λs=>kP y1 s.1 s.2) p.1 p.2=some r) (·.1) (n3,(1,([]:List Sub))) H (.k4 rfl rfl rfl rfl (.nil)) rfl ?_
  rintro ⟨m1,Ab,pY⟩ HI EW;obtain ⟨n1,q1,tW,H,bu⟩:=ft HI;clear HI;replace H:kP y1 Ab pY=some q1:=H;unfold kP at H;obtain ⟨Af,H⟩:=aq H;refine .A 19 [.i (pY.length:Int),.i (y1.bl.length:Int),.i (y1.ended.length:Int),.i ((y1.bl.length:Int) - (y1.ended.length:Int))] rfl ⟨rfl,rfl,rfl,λhg=>gF rfl rfl (Af hg),rfl,rfl,λhg=>r7.n rfl rfl,rfl,rfl,λhg=>tg.n rfl rfl,rfl,rfl,λhg=>tg.n rfl rfl,rfl,rfl⟩ (.ite H rfl (λH=>?_) (λH=>?_))
  ·obtain ⟨y3,ju,H⟩:=ae H;obtain ⟨y4,nU,H⟩:=ae H;refine .A 21 [.i y3,.b y4] rfl ⟨rfl,rfl,λhg=>av (en 122 rfl) rfl rfl (rl (ba nU hg)),rfl,rfl,av (en 124 rfl) rfl rfl (rV ju)⟩ (.ite H rfl (λH=>?_) (λH=>?_))
   ·obtain ⟨Iy,Iz,Mp,H⟩:=ck3 H;refine .A 20 [.p 8,.d (.ro (Sub.row (nth y1.bl y3.toNat))),.d (ai 8 Sub.row ([nth y1.bl y3.toNat]:List Sub)),.a 0 98 8 Sub.row (pY++([nth y1.bl y3.toNat]:List Sub)),.i (Ab+1)] rfl ⟨aG rfl rfl Mp,tg.a rfl rfl rfl rfl Iz,aT underlying120 qa wH tM rfl rfl rfl rfl rfl,tg.ix rfl rfl rfl Iy,(show cr _ _=true by kernel_rfl)⟩ ?_;cases H;exact .z (EW (n1,(Ab+1,pY++([nth y1.bl y3.toNat]:List Sub))) bu tW) rfl rfl
   ·obtain ⟨Mq,H⟩:=aq H;refine .A 7 [.i (Ab+1)] rfl (aG rfl rfl Mq) ?_;cases H;exact .z (EW (n1,(Ab+1,pY)) bu tW) rfl rfl
  ·refine .E 1 rfl ?_;obtain ⟨q0,H9,lz⟩:=bR H;clear H;cases lz;cases bu;have H:=H9;exact .z (eX pY H) rfl rfl
theorem Gr {az:List Event} {dd:List UInt8} {Ik:Int} {r:Int×Bool} (H:rQ az dd Ik=some r):aD prog 54 [ai 7 Event.row az,cS dd,cI Ik] (·=.dV [cI r.1,cB r.2]):=by
 refine aD.bc func54 rfl ntmps54 rfl λS hS=>?_
 unfold rQ at H;obtain ⟨y1,cQ,H⟩:=ae H;refine .A 19 [.d (.agg (b7.row y1)),.r 0] rfl (av (en 145 rfl) rfl rfl (Gq cQ)) (.lp H (λcm=>[(1,.d (cS dd)),(8,.ref 0 0),(9,.d (cI cm))]) (λcm=>⟨[.row 147 [.d (ai 6 al.row y1.aJ),.d (ai 8 Sub.row y1.bl)]],[]⟩) (.k3 rfl rfl rfl (.nil)) rfl ?_);rintro cm q1 H bu;unfold mO at H;refine .A 9 [.i (y1.bl.length:Int)] rfl (tg.n rfl rfl) (.ite H rfl (λH=>?_) (λH=>?_))
 ·obtain ⟨cH,H⟩:=aq H;obtain ⟨y2,fD,H⟩:=ae H;refine .A 14 [.d (.ro (Sub.row (nth y1.bl cm.toNat))),.b y2] rfl ⟨av (en 126 rfl) rfl rfl (rW fD),tg.ix rfl rfl rfl cH⟩ (.ite H rfl (λH=>?_) (λH=>?_))
  ·obtain ⟨cY,H⟩:=aq H;refine .A 11 [.d (.ro (Sub.row (nth y1.bl cm.toNat)))] rfl (tg.ix rfl rfl rfl cY) (.R func54 results54 rfl ?_);cases H;cases bu;exact .m rfl (.kV rfl)
  ·obtain ⟨dW,H⟩:=aq H;refine .A 7 [.i (cm+1)] rfl (aG rfl rfl dW) ?_;cases H;exact .z bu rfl rfl
 ·refine .E 6 rfl (.R func54 results54 rfl ?_);cases H;cases bu;exact .m rfl (.kV rfl)
theorem Ky {az:List Event} {wz Ik:Int} {r:Sub×Bool} (H:vC az wz Ik=some r):aD prog 55 [ai 7 Event.row az,cI wz,cI Ik] (·=.dV [.agg (Sub.row r.1),cB r.2]):=by
 obtain ⟨i98,qa,tM,wH,Gc⟩:=CW;refine aD.bc func55 rfl ntmps55 rfl λS hS=>?_
 unfold vC at H;obtain ⟨y1,cQ,H⟩:=ae H;obtain ⟨y2,fD,H⟩:=ae H;obtain ⟨y3,ju,H⟩:=ae H;refine .A 31 [.r 0,.d (.agg (ah.row y1)),.r 1,.i y2,.b y3] rfl ⟨rfl,λhg=>av (en 122 rfl) rfl rfl (rl (ba ju hg)),rfl,rfl,av (en 124 rfl) rfl rfl (rV fD),av (en 144 rfl) rfl rfl (Bo cQ)⟩ (.ite H rfl (λH=>?_) (λH=>?_))
 ·refine .A 6 [.d (.agg (Sub.row kq12))] rfl (aK.g (aK.le (bh Ke qa tM rfl rfl) (dX.d (.agg ⟨.ak _,.ak _,.ak _,.ak _,.nil 1,.nil 1,.ak _,.ak _,trivial⟩)))) (.R func55 results55 rfl ?_);cases H;exact .m rfl (.kV rfl)
 ·obtain ⟨cH,H⟩:=aq H;refine .A 11 [.d (.ro (Sub.row (nth y1.bl y2.toNat)))] rfl (tg.ix rfl rfl rfl cH) (.R func55 results55 rfl ?_);cases H;exact .m rfl (.kV rfl)
theorem Gs {v0:List Event} {v1:aa} {v2:Int} {r:aC×Int} (H:mP v0 v1 v2=some r):aD prog 24 [ai 7 Event.row v0,.agg (aa.row v1),cI v2] (·=.dV [.agg (aC.row r.1),cI r.2]):=by
 obtain ⟨i54,uX,vG,EX,Ms⟩:=CU;refine aD.bc func24 rfl ntmps24 rfl λS hS=>?_
 unfold mP at H;obtain ⟨y1,cQ,H⟩:=ae H;refine .A 18 [.r 0,.r 1,.i y1] rfl (av (en 99 rfl) rfl rfl (oD cQ)) (.ite H rfl (λH=>?_) (λH=>?_))
 ·refine .A 7 [.d (.agg (aC.row kq4))] rfl (aK.g (bh zt uX vG rfl rfl)) (.R func24 results24 rfl ?_);cases H;exact .m rfl (.kV rfl)
 ·refine .E 8 rfl (.ite H rfl (λH=>?_) (λH=>?_))
  ·refine .A 6 [.d (.agg (aC.row kq4))] rfl (aK.g (bh zt uX vG rfl rfl)) (.R func24 results24 rfl ?_);cases H;exact .m rfl (.kV rfl)
  ·refine .E 7 rfl (.jg (ι:=List UInt8) (λMk=>[(0,.d (ai 7 Event.row v0)),(2,.d (cI v2)),(4,.ref 0 0),(6,.ref 1 0),(9,.d (cS Mk))]) (λMk=>⟨[aa.o58 v1,.row 54 [.d (cI 0),.d (cI 0),.d (cI 0),.d (cI 0),.d (cS ([]:List UInt8)),.d (cS ([]:List UInt8)),.d (cI 0),.d (cI 0),.d (cI 0),.d (cB false),.d (cI 0),.d (cI 0)]],[]⟩) (λs=>jc v0 v1 v2 s=some r) ?_ ?_)
   ·rintro Mk H;replace H:jc v0 v1 v2 Mk=some r:=H;unfold jc at H;obtain ⟨y2,fD,H⟩:=ae H;refine .A 23 [.d (.dV [cI y2.1,cB y2.2])] rfl ⟨rfl,rfl,av (en 146 rfl) rfl rfl (Gr fD)⟩ (.ite H rfl (λH=>?_) (λH=>?_))
    ·refine .A 6 [.d (.agg (aC.row kq4))] rfl (aK.g (bh zt uX vG rfl rfl)) (.R func24 results24 rfl ?_);cases H;exact .m rfl (.kV rfl)
    ·obtain ⟨y3,ju,H⟩:=ae H;refine .A 26 [.d (.dV [.agg (Sub.row y3.1),cB y3.2]),.r 2] rfl ⟨rfl,rfl,rfl,av (en 147 rfl) rfl rfl (Ky ju)⟩ (.ite H rfl (λH=>?_) (λH=>?_))
     ·refine .A 6 [.d (.agg (aC.row kq4))] rfl (aK.g (bh zt uX vG rfl rfl)) (.R func24 results24 rfl ?_);cases H;exact .m rfl (.kV rfl)
     ·refine .A 29 [.d (.agg (aC.row (⟨v2,v1.kind,y3.1.au,y2.1,v1.a,v1.b,v1.start,v1.cU,v1.c9,v1.bS,v1.source,v1.aI⟩:aC)))] rfl (aK.g (bh zt uX vG rfl (by kernel_rfl))) (.R func24 results24 rfl ?_);cases H;exact .m rfl (.kV rfl)
   ·intro p7;refine .E 5 rfl (.ite H rfl (λH=>?_) (λH=>?_))
    ·exact .E 5 rfl (.z (p7 v1.b H) rfl rfl)
    ·exact .E 1 rfl (.z (p7 v1.a H) rfl rfl)
theorem Gt {az:List Event} {jT:aj} {gO:List aa} {r:(List Range)×(List aa)×(List Head)×(List aC)×(List aa)×(List ag)} (H:rR az jT gO=some r):aN prog 51 [.d (ai 7 Event.row az),.d (.agg (aj.row jT)),.d (ai 12 aa.row gO)] ⟨[],[]⟩ (QE (.agg [.d (ai 3 Range.row r.1),.d (ai 12 aa.row r.2.1),.d (ai 4 Head.row r.2.2.1),.d (ai 12 aC.row r.2.2.2.1),.d (ai 12 aa.row r.2.2.2.2.1),.cz 4 (r.2.2.2.2.2.map ag.row) 0]) ⟨[],[oR r.2.2.2.2.2.length]⟩):=by
 obtain ⟨i54,uX,vG,EX,Ms⟩:=CU;obtain ⟨i58,ei,fm,e9,qd⟩:=gG;obtain ⟨i66,yR,Ad,Cq,Ko⟩:=CV;refine aN.ll ?_;refine aN.enter func51 rfl ntmps51 rfl λS hS=>?_
 unfold rR at H;obtain ⟨cH,cY,H⟩:=ck2 H;refine .A 26 [.r 0,.r 1,.n (.cz 12 (([]:List aC).map aC.row) 0) (Ig ([]:List aC).length),.a 0 54 12 aC.row (([]:List aC)++jT.usages),.n (.cz 12 (([]:List aa).map aa.row) 1) (bo ([]:List aa).length),.a 1 58 12 aa.row (([]:List aa)++jT.aS)] rfl ⟨fp.a rfl rfl rfl rfl cY,.e (ve underlying23 ei e9) rfl,B5.a rfl rfl rfl rfl cH,.e (ve underlying27 uX EX) rfl⟩ (.bH (ι:=List aC×List aa) (λ⟨jd,mQ⟩=>[(4,.ref 0 0),(6,.ref 1 0),(7,.cz 12 (jd.map aC.row) 0),(8,.cz 12 (mQ.map aa.row) 1)]) (λ⟨jd,mQ⟩=>⟨[aj.o30 jT,.row 30 [.d aY,.d aY,.d aY,.d aY,.d aY,.d aY]],[Ig jd.length,bo mQ.length]⟩) (λs=>mR jT s.1 s.2=some r) ?_ ?_)
 ·rintro ⟨jd,mQ⟩ H;replace H:mR jT jd mQ=some r:=H;unfold mR at H;obtain ⟨dW,H⟩:=aq H;refine .B 23 [.n (.cz 4 (([]:List ag).map ag.row) 2) (oR ([]:List ag).length),.a 2 66 4 ag.row (([]:List ag)++jT.bA)] rfl ⟨Ic.a rfl rfl rfl rfl dW,.e (ve underlying28 yR Cq) rfl⟩ (.nN 0 3 rfl rfl (.cz _ _ _) (.nN 0 4 rfl rfl (.cz _ _ _) (.A 3 [.f 3 (.agg [.d (ai 3 Range.row jT.aH.seen),.d (ai 12 aa.row jT.aH.open_),.d (ai 4 Head.row jT.aH.aO),.d (ai 12 aC.row jd),.d (ai 12 aa.row mQ),.cz 4 ((([]:List ag)++jT.bA).map ag.row) 2])] rfl (aK.g (Ev H7 G0 rfl rfl (zaf rfl) rfl)) (.UT [.cell 6 30] [.agg [.d (ai 3 Range.row jT.aH.seen),.d (ai 12 aa.row jT.aH.open_),.d (ai 4 Head.row jT.aH.aO),.d (ai 12 aC.row jd),.d (ai 12 aa.row mQ),.cz 4 ((([]:List ag)++jT.bA).map ag.row) 2]] func51 results51 ⟨⟨⟨_,_,rfl⟩,Ev H7 G0 rfl rfl (zaf rfl) rfl⟩,trivial⟩ ?_))));cases H;exact ⟨[],[2],rfl,rfl,rfl,rfl,rfl,rfl,rfl,rfl,.Yr ⟨.ak _,.ak _,.ak _,.ak _,.ak _,.ak _,trivial⟩⟩
 ·intro p7 eX;refine .lp H (λ⟨dn,ir,cm⟩=>[(0,.d (ai 7 Event.row az)),(2,.d (ai 12 aa.row gO)),(4,.ref 0 0),(6,.ref 1 0),(7,.cz 12 (dn.map aC.row) 0),(8,.cz 12 (ir.map aa.row) 1),(9,.d (cI cm))]) (λ⟨dn,ir,cm⟩=>⟨[aj.o30 jT,.row 30 [.d aY,.d aY,.d aY,.d aY,.d aY,.d aY]],[Ig dn.length,bo ir.length]⟩) (.k7 rfl rfl rfl rfl rfl rfl rfl (.nil)) rfl ?_;rintro ⟨dn,ir,cm⟩ q1 H bu
  dsimp only at H
  unfold mS at H;refine .A 8 [.i (gO.length:Int)] rfl (fp.n rfl rfl) (.ite H rfl (λH=>?_) (λH=>?_))
  ·obtain ⟨gC,j5,H⟩:=ck2 H;obtain ⟨y1,cQ,H⟩:=ae H;refine .A 26 [.d (.ro (aa.row (nth gO cm.toNat))),.i (dn.length:Int),.i ((dn.length:Int)+1),.d (.dV [.agg (aC.row y1.1),cI y1.2]),.r 2] rfl ⟨av (en 148 rfl) rfl rfl (Gs cQ),aG rfl rfl j5,B5.n rfl rfl,fp.ix rfl rfl rfl gC⟩ (.ite H rfl (λH=>?_) (λH=>?_))
   ·obtain ⟨pb,uS,H⟩:=ck2 H;refine .A 13 [.d (ai 12 aC.row ([y1.1]:List aC)),.a 0 54 12 aC.row (dn++([y1.1]:List aC)),.i (cm+1)] rfl ⟨aG rfl rfl uS,B5.a rfl rfl rfl rfl pb,aT underlying27 uX EX vG rfl rfl rfl rfl rfl⟩ ?_;cases H;exact .t 2 2 bu rfl rfl rfl rfl rfl hS rfl
   ·obtain ⟨yS,Gb,Af,H⟩:=ck3 H;refine .A 16 [.d (.ro (aa.row (nth gO cm.toNat))),.d (ai 12 aa.row ([nth gO cm.toNat]:List aa)),.a 1 58 12 aa.row (ir++([nth gO cm.toNat]:List aa)),.i (cm+1)] rfl ⟨aG rfl rfl Af,fp.a rfl rfl rfl rfl Gb,aT underlying23 ei e9 fm rfl rfl rfl rfl rfl,fp.ix rfl rfl rfl yS⟩ ?_;cases H;exact .t 2 2 bu rfl rfl rfl rfl rfl hS rfl
  ·refine .E 1 rfl ?_;obtain ⟨q0,H9,lz⟩:=bR H;clear H;cases lz;cases bu;have H:=H9;exact .z (eX (dn,ir) H) rfl rfl
theorem II {az:List Event} {jT:aj} {YR:Batch} {Xu:bX} {r:aj×Int} (H:tA az jT YR Xu=some r):aD prog 19 [ai 7 Event.row az,.agg (aj.row jT),.agg (Batch.row YR),.agg (bX.row Xu)] (·=.dV [.agg (aj.row r.1),cI r.2]):=by
 obtain ⟨i30,Kr,Ks,Za,Zb⟩:=Qo;refine aD.bc func19 rfl ntmps19 rfl λS hS=>?_
 unfold tA at H;obtain ⟨y1,cQ,H⟩:=ae H;refine .A 32 [.r 0,.r 1,.r 2,.r 3,.d (.dV [.agg (aF.row y1.1),ai 12 aa.row y1.2.1,ai 4 ag.row y1.2.2.1,cI y1.2.2.2]),.r 4] rfl (av (en 149 rfl) rfl rfl (E6 cQ)) (.ite H rfl (λH=>?_) (λH=>?_))
 ·refine .A 7 [.d (.agg (aj.row kq13))] rfl (aK.g (aK.le (bh G1 Kr Ks rfl rfl) (dX.d (.agg ⟨.nil 3,.nil 12,.nil 4,.nil 12,.nil 12,.nil 4,trivial⟩)))) (.R func19 results19 rfl ?_);cases H;exact .m rfl (.kV rfl)
 ·obtain ⟨y2,fD,H⟩:=ae H;refine .F 6 rfl (.fa (en 150 rfl) rfl [] [] (x:=.agg [.d (ai 3 Range.row y2.1),.d (ai 12 aa.row y2.2.1),.d (ai 4 Head.row y2.2.2.1),.d (ai 12 aC.row y2.2.2.2.1),.d (ai 12 aa.row y2.2.2.2.2.1),.cz 4 (y2.2.2.2.2.2.map ag.row) 0]) (st':=⟨[aj.o30 jT,Batch.o38 YR,.row 40 [.d (cI Xu.eA),.d (cI Xu.iO)],.row 30 [.d aY,.d aY,.d aY,.d aY,.d aY,.d aY],aF.o26 y1.1],[oR y2.2.2.2.2.2.length]⟩) rfl (Gt fD) ⟨.ak _,.ak _,.ak _,trivial⟩ rfl rfl rfl rfl rfl rfl ?_);obtain ⟨cH,H⟩:=aq H;refine .B 20 [.r 5,.a 0 66 4 ag.row (y2.2.2.2.2.2++y1.2.2.1)] rfl (Ic.a rfl rfl rfl rfl cH) (.nN 5 5 rfl rfl (.cz _ _ _) (.E 4 rfl (.R func19 results19 rfl ?_)));cases H;exact .m rfl (.kV rfl)
theorem IJ {fw gi:List Range} {r:Bool} (H:tB fw gi=some r):aD prog 95 [ai 3 Range.row fw,ai 3 Range.row gi] (·=cB r):=by
 refine aD.bc func95 rfl ntmps95 rfl λS hS=>?_
 unfold tB at H;refine .A 13 [.i (fw.length:Int),.i (gi.length:Int)] rfl ⟨wu.n rfl rfl,wu.n rfl rfl⟩ (.ite H rfl (λH=>?_) (λH=>?_))
 ·refine .E 4 rfl (.R func95 results95 rfl ?_);cases H;exact .m rfl (.ak _)
 ·refine .E 7 rfl (.lp H (λaE=>[(0,.d (ai 3 Range.row fw)),(1,.d (ai 3 Range.row gi)),(5,.d (cI aE))]) (λaE=>⟨[],[]⟩) (.k3 rfl rfl rfl (.nil)) rfl ?_);rintro aE q1 H bu;unfold rh at H;refine .A 8 [.i (fw.length:Int)] rfl (wu.n rfl rfl) (.ite H rfl (λH=>?_) (λH=>?_))
  ·obtain ⟨cH,cY,H⟩:=ck2 H;refine .A 16 [.p 9,.d (.ro (Range.row (nth fw aE.toNat))),.d (.ro (Range.row (nth gi aE.toNat))),.b (!(ew (Range.bP (nth fw aE.toNat)) (Range.bP (nth gi aE.toNat))))] rfl ⟨aK.g (qT V3 rfl rfl (xs:=Range.bP (nth fw aE.toNat)) (ys:=Range.bP (nth gi aE.toNat)) rfl rfl rfl rfl),wu.ix rfl rfl rfl cY,wu.ix rfl rfl rfl cH,(show cr _ _=true by kernel_rfl)⟩ (.ite H rfl (λH=>?_) (λH=>?_))
   ·refine .E 4 rfl (.R func95 results95 rfl ?_);cases H;cases bu;exact .m rfl (.ak _)
   ·obtain ⟨dW,H⟩:=aq H;refine .A 7 [.i (aE+1)] rfl (aG rfl rfl dW) ?_;cases H;exact .z bu rfl rfl
  ·refine .E 5 rfl (.R func95 results95 rfl ?_);cases H;cases bu;exact .m rfl (.ak _)
theorem Bp {fw gi:List aa} {r:Bool} (H:qL fw gi=some r):aD prog 25 [ai 12 aa.row fw,ai 12 aa.row gi] (·=cB r):=by
 refine aD.bc func25 rfl ntmps25 rfl λS hS=>?_
 unfold qL at H;refine .A 13 [.i (fw.length:Int),.i (gi.length:Int)] rfl ⟨fp.n rfl rfl,fp.n rfl rfl⟩ (.ite H rfl (λH=>?_) (λH=>?_))
 ·refine .E 4 rfl (.R func25 results25 rfl ?_);cases H;exact .m rfl (.ak _)
 ·refine .E 7 rfl (.lp H (λaE=>[(0,.d (ai 12 aa.row fw)),(1,.d (ai 12 aa.row gi)),(5,.d (cI aE))]) (λaE=>⟨[],[]⟩) (.k3 rfl rfl rfl (.nil)) rfl ?_);rintro aE q1 H bu;unfold ri at H;refine .A 8 [.i (fw.length:Int)] rfl (fp.n rfl rfl) (.ite H rfl (λH=>?_) (λH=>?_))
  ·obtain ⟨cH,cY,H⟩:=ck2 H;refine .A 16 [.p 9,.d (.ro (aa.row (nth fw aE.toNat))),.d (.ro (aa.row (nth gi aE.toNat))),.b (!(ew (aa.bP (nth fw aE.toNat)) (aa.bP (nth gi aE.toNat))))] rfl ⟨aK.g (qT T0 rfl rfl (xs:=aa.bP (nth fw aE.toNat)) (ys:=aa.bP (nth gi aE.toNat)) rfl rfl rfl rfl),fp.ix rfl rfl rfl cY,fp.ix rfl rfl rfl cH,(show cr _ _=true by kernel_rfl)⟩ (.ite H rfl (λH=>?_) (λH=>?_))
   ·refine .E 4 rfl (.R func25 results25 rfl ?_);cases H;cases bu;exact .m rfl (.ak _)
   ·obtain ⟨dW,H⟩:=aq H;refine .A 7 [.i (aE+1)] rfl (aG rfl rfl dW) ?_;cases H;exact .z bu rfl rfl
  ·refine .E 5 rfl (.R func25 results25 rfl ?_);cases H;cases bu;exact .m rfl (.ak _)
theorem IK {fw gi:aF} {r:Bool} (H:tC fw gi=some r):aD prog 52 [.agg (aF.row fw),.agg (aF.row gi)] (·=cB r):=by
 refine aD.bc func52 rfl ntmps52 rfl λS hS=>?_
 unfold tC at H;refine .A 17 [.r 0,.r 1,.i (fw.aO.length:Int),.i (gi.aO.length:Int)] rfl ⟨BI.n rfl rfl,BI.n rfl rfl⟩ (.ite H rfl (λH=>?_) (λH=>?_))
 ·refine .E 4 rfl (.R func52 results52 rfl ?_);cases H;exact .m rfl (.ak _)
 ·refine .E 6 rfl (.bH (ι:=Unit) (λ_=>[(2,.ref 0 0),(3,.ref 1 0)]) (λ_=>⟨[aF.o26 fw,aF.o26 gi],[]⟩) (λs=>oA fw gi=some r) ?_ ?_)
  ·rintro _ H;replace H:oA fw gi=some r:=H;unfold oA at H;obtain ⟨y1,cQ,H⟩:=ae H;obtain ⟨y2,fD,H⟩:=ae H;refine .A 16 [.b y1,.b y2] rfl ⟨rfl,λhg=>av (en 151 rfl) rfl rfl (Bp (ba fD hg)),rfl,rfl,rfl,rfl,av (en 152 rfl) rfl rfl (IJ cQ)⟩ (.R func52 results52 rfl ?_);cases H;exact .m rfl (.ak _)
  ·intro p7 eX;refine .lp H (λaE=>[(2,.ref 0 0),(3,.ref 1 0),(5,.d (cI aE))]) (λaE=>⟨[aF.o26 fw,aF.o26 gi],[]⟩) (.k3 rfl rfl rfl (.nil)) rfl ?_;rintro aE q1 H bu;unfold rj at H;refine .A 9 [.i (fw.aO.length:Int)] rfl (BI.n rfl rfl) (.ite H rfl (λH=>?_) (λH=>?_))
   ·obtain ⟨cH,cY,H⟩:=ck2 H;refine .A 18 [.p 11,.d (.ro (Head.row (nth fw.aO aE.toNat))),.d (.ro (Head.row (nth gi.aO aE.toNat))),.b (!(ew (Head.bP (nth fw.aO aE.toNat)) (Head.bP (nth gi.aO aE.toNat))))] rfl ⟨aK.g (qT QC rfl rfl (xs:=Head.bP (nth fw.aO aE.toNat)) (ys:=Head.bP (nth gi.aO aE.toNat)) rfl rfl rfl rfl),BI.ix rfl rfl rfl cY,BI.ix rfl rfl rfl cH,(show cr _ _=true by kernel_rfl)⟩ (.ite H rfl (λH=>?_) (λH=>?_))
    ·refine .E 4 rfl (.R func52 results52 rfl ?_);cases H;cases bu;exact .m rfl (.ak _)
    ·obtain ⟨dW,H⟩:=aq H;refine .A 7 [.i (aE+1)] rfl (aG rfl rfl dW) ?_;cases H;exact .z bu rfl rfl
   ·refine .E 1 rfl ?_;obtain ⟨q0,H9,lz⟩:=bR H;clear H;cases lz;cases bu;have H:=H9;exact .z (eX () H) rfl rfl
theorem IL {fw gi:List aC} {r:Bool} (H:tD fw gi=some r):aD prog 22 [ai 12 aC.row fw,ai 12 aC.row gi] (·=cB r):=by
 refine aD.bc func22 rfl ntmps22 rfl λS hS=>?_
 unfold tD at H;refine .A 13 [.i (fw.length:Int),.i (gi.length:Int)] rfl ⟨B5.n rfl rfl,B5.n rfl rfl⟩ (.ite H rfl (λH=>?_) (λH=>?_))
 ·refine .E 4 rfl (.R func22 results22 rfl ?_);cases H;exact .m rfl (.ak _)
 ·refine .E 7 rfl (.lp H (λaE=>[(0,.d (ai 12 aC.row fw)),(1,.d (ai 12 aC.row gi)),(5,.d (cI aE))]) (λaE=>⟨[],[]⟩) (.k3 rfl rfl rfl (.nil)) rfl ?_);rintro aE q1 H bu;unfold rk at H;refine .A 8 [.i (fw.length:Int)] rfl (B5.n rfl rfl) (.ite H rfl (λH=>?_) (λH=>?_))
  ·obtain ⟨cH,cY,H⟩:=ck2 H;refine .A 16 [.p 9,.d (.ro (aC.row (nth fw aE.toNat))),.d (.ro (aC.row (nth gi aE.toNat))),.b (!(ew (aC.bP (nth fw aE.toNat)) (aC.bP (nth gi aE.toNat))))] rfl ⟨aK.g (qT YP rfl rfl (xs:=aC.bP (nth fw aE.toNat)) (ys:=aC.bP (nth gi aE.toNat)) rfl rfl rfl rfl),B5.ix rfl rfl rfl cY,B5.ix rfl rfl rfl cH,(show cr _ _=true by kernel_rfl)⟩ (.ite H rfl (λH=>?_) (λH=>?_))
   ·refine .E 4 rfl (.R func22 results22 rfl ?_);cases H;cases bu;exact .m rfl (.ak _)
   ·obtain ⟨dW,H⟩:=aq H;refine .A 7 [.i (aE+1)] rfl (aG rfl rfl dW) ?_;cases H;exact .z bu rfl rfl
  ·refine .E 5 rfl (.R func22 results22 rfl ?_);cases H;cases bu;exact .m rfl (.ak _)
theorem zc {fw gi:List ag} {r:Bool} (H:jG fw gi=some r):aD prog 53 [ai 4 ag.row fw,ai 4 ag.row gi] (·=cB r):=by
 refine aD.bc func53 rfl ntmps53 rfl λS hS=>?_
 unfold jG at H;refine .A 13 [.i (fw.length:Int),.i (gi.length:Int)] rfl ⟨Ic.n rfl rfl,Ic.n rfl rfl⟩ (.ite H rfl (λH=>?_) (λH=>?_))
 ·refine .E 4 rfl (.R func53 results53 rfl ?_);cases H;exact .m rfl (.ak _)
 ·refine .E 7 rfl (.lp H (λaE=>[(0,.d (ai 4 ag.row fw)),(1,.d (ai 4 ag.row gi)),(5,.d (cI aE))]) (λaE=>⟨[],[]⟩) (.k3 rfl rfl rfl (.nil)) rfl ?_);rintro aE q1 H bu;unfold jF at H;refine .A 8 [.i (fw.length:Int)] rfl (Ic.n rfl rfl) (.ite H rfl (λH=>?_) (λH=>?_))
  ·obtain ⟨cH,cY,H⟩:=ck2 H;refine .A 16 [.p 9,.d (.ro (ag.row (nth fw aE.toNat))),.d (.ro (ag.row (nth gi aE.toNat))),.b (!(ew (ag.bP (nth fw aE.toNat)) (ag.bP (nth gi aE.toNat))))] rfl ⟨aK.g (qT YQ rfl rfl (xs:=ag.bP (nth fw aE.toNat)) (ys:=ag.bP (nth gi aE.toNat)) rfl rfl rfl rfl),Ic.ix rfl rfl rfl cY,Ic.ix rfl rfl rfl cH,(show cr _ _=true by kernel_rfl)⟩ (.ite H rfl (λH=>?_) (λH=>?_))
   ·refine .E 4 rfl (.R func53 results53 rfl ?_);cases H;cases bu;exact .m rfl (.ak _)
   ·obtain ⟨dW,H⟩:=aq H;refine .A 7 [.i (aE+1)] rfl (aG rfl rfl dW) ?_;cases H;exact .z bu rfl rfl
  ·refine .E 5 rfl (.R func53 results53 rfl ?_);cases H;cases bu;exact .m rfl (.ak _)
theorem IM {fw gi:aj} {r:Bool} (H:qM fw gi=some r):aD prog 20 [.agg (aj.row fw),.agg (aj.row gi)] (·=cB r):=by
 refine aD.bc func20 rfl ntmps20 rfl λS hS=>?_
 unfold qM at H;obtain ⟨y1,cQ,H⟩:=ae H;obtain ⟨y2,fD,H⟩:=ae H;obtain ⟨y3,ju,H⟩:=ae H;obtain ⟨y4,nU,H⟩:=ae H;refine .A 36 [.r 0,.r 1,.b y1,.b y2,.b y3,.b y4] rfl ⟨rfl,λhg=>av (en 153 rfl) rfl rfl (zc (ba nU hg)),rfl,rfl,rfl,rfl,rfl,λhg=>av (en 151 rfl) rfl rfl (Bp (ba ju hg)),rfl,rfl,rfl,rfl,rfl,λhg=>av (en 154 rfl) rfl rfl (IL (ba fD hg)),rfl,rfl,rfl,rfl,av (en 155 rfl) rfl rfl (IK cQ)⟩ (.R func20 results20 rfl ?_);cases H;exact .m rfl (.ak _)
theorem wI {az:List Event} {jT:aj} {T2:dB} {r:Bool} (H:jH az jT T2=some r):aD prog 4 [ai 7 Event.row az,.agg (aj.row jT),.agg (dB.row T2)] (·=cB r):=by
 refine aD.bc func4 rfl ntmps4 rfl λS hS=>?_
 unfold jH at H;obtain ⟨y1,cQ,H⟩:=ae H;obtain ⟨y2,fD,H⟩:=ae H;obtain ⟨y3,ju,H⟩:=ae H;refine .A 25 [.r 0,.r 1,.b y1,.b y2,.b y3] rfl ⟨rfl,rfl,λhg=>av (en 0 rfl) rfl rfl (xN (ba ju hg)),rfl,rfl,rfl,rfl,rfl,λhg=>av (en 156 rfl) rfl rfl (Ak (ba fD hg)),rfl,av (en 157 rfl) rfl rfl (Kw cQ)⟩ (.ite H rfl (λH=>?_) (λH=>?_))
 ·obtain ⟨y4,nU,H⟩:=ae H;refine .A 5 [.b y4] rfl (av (en 116 rfl) rfl rfl (zC nU)) (.R func4 results4 rfl ?_);cases H;exact .m rfl (.ak _)
 ·obtain ⟨y5,uR,H⟩:=ae H;obtain ⟨y6,Dr,H⟩:=ae H;obtain ⟨y7,Ps,H⟩:=ae H;obtain ⟨y8,R6,H⟩:=ae H;refine .A 48 [.d (.dV [.agg (aj.row y5.1),cI y5.2]),.r 2,.d (.dV [.agg (aj.row y6.1),cI y6.2]),.r 3,.b y7,.b y8] rfl ⟨rfl,λhg=>av (en 116 rfl) rfl rfl (zC (ba R6 hg)),rfl,rfl,rfl,av (en 158 rfl) rfl rfl (IM Ps),av (en 159 rfl) rfl rfl (II Dr),av (en 90 rfl) rfl rfl (jf uR)⟩ (.R func4 results4 rfl ?_);cases H;exact .m rfl (.ak _)
end Go.Proofs.YtimkfiaffohhkaaGreatDoor
namespace Go.Proofs.YtimkfiaffohhkaaGreatDoor
open Go.RowKit Go.Abs
theorem gn {α:Type} [Inhabited α] {b:Bool} {x:α}:b9 b (some x)=some (if b=true then x else default):=by
 unfold b9;split <;> rfl
theorem tO {α R:Type} [Inhabited α] {step:Int->Option (Int ⊕ R)} (l:List α) (p:α->Bool) (fin bad:R) (hl:l.length<18446744073709551616)
  (h1:∀ i:Int,0<=i->i<(l.length:Int)->step i=some (if p (nth l i.toNat)=true then .inl (i+1) else .inr bad)) (h2:∀ i:Int,i=(l.length:Int)->step i=some (.inr fin)):loop step 0=some (if l.all p=true then fin else bad):=by
 have:=ng (step:=step) (λi:Int=>some (if (l.drop i.toNat).all p=true then fin else bad)) (λi=>0<=i/\i<=(l.length:Int)) (λi=>((l.length:Int) - i).toNat) (λi hI=>by
  by_cases hi:i<(l.length:Int)
  ·have hd:=td (l:=l) (k:=i.toNat) (by omega);rw [h1 i hI.1 hi];by_cases hp:p (nth l i.toNat)=true
   ·rw [zab hp];refine .inr ⟨i+1,rfl,⟨by omega,by omega⟩,by omega,?_⟩;rw [show (i+1).toNat=i.toNat+1 from by omega,hd];simp [hp]
   ·rw [zaa hp];refine .inl ⟨bad,rfl,?_⟩;rw [hd];simp [hp]
  ·have:i=(l.length:Int):=by omega
   refine .inl ⟨fin,h2 i this,?_⟩;rw [zdb (by omega)];simp) (s:=0) ⟨by omega,by omega⟩ (by omega)
 simpa using this
def E7 (c:UInt8):Bool:=decide (48<=c) && decide (c<=57)
def oW (s:List UInt8):Bool:=s.all E7 && decide (1<=s.length) && decide (s.length<=15)
theorem Nu (s:List UInt8) (hl:s.length<1000000000):kj s=some (oW s):=by
 unfold kj;rw [tO s E7 (decide ((s.length:Int)>=1) && decide ((s.length:Int)<=15)) false (by omega) (λi h0 h1=>?_) (λi hi=>?_)]
 ·unfold oW;cases s.all E7 <;> simp;rw [zbz];simp;omega
 ·unfold lX pw;rw [zab (by simpa using h1),af (by omega)];simp only [zac];rw [af (by omega)];unfold E7;simp only [ge_iff_le];cases decide (48<=nth s i.toNat) <;> cases decide (nth s i.toNat<=57) <;> rfl
 ·unfold lX jx;rw [zaa (by simp;omega)];rfl
theorem E8 (s:List UInt8) (hl:s.length<1000000000):mD s=some (oW s):=by
 unfold mD;rw [tO s E7 (decide ((s.length:Int)>=1) && decide ((s.length:Int)<=15)) false (by omega) (λi h0 h1=>?_) (λi hi=>?_)]
 ·unfold oW;cases s.all E7 <;> simp;rw [zbz];simp;omega
 ·unfold pJ;rw [zab (by simpa using h1),af (by omega),af (by omega),af (by omega)];unfold E7;have e1:decide (nth s i.toNat<48)=!decide (48<=nth s i.toNat):=by rw [←decide_not];simp
  have e2:decide (nth s i.toNat > 57)=!decide (nth s i.toNat<=57):=by rw [←decide_not];simp
  rw [e1,e2];cases decide (48<=nth s i.toNat) <;> cases decide (nth s i.toNat<=57) <;> rfl
 ·unfold pJ mC;rw [zaa (by simp;omega)];rfl
def eb (r:aa):Int :=
 if ¬(1<=r.source/\r.source<=99/\1<=r.aI/\r.aI<=999999999) then 6
 else if ¬(1<=r.kind/\r.kind<=4) then 7
 else if oW r.a=false∨(oW r.b=false/\¬((r.kind=3∨r.kind=4)/\r.b=[])) then 12
 else if ¬(0<=r.start/\r.start<=12622780799) then 15
 else if ¬(0<=r.cU/\r.cU<=1099511627776)∨(r.kind=1/\r.cU > 604800) then 6
 else if r.kind=1/\r.start+r.cU > 12622780800 then 15
 else if ¬(0<=r.call/\r.call<=999999999/\0<=r.part/\r.part<=99) then 6
 else if ¬(r.part=0↔r.call=0)∨(r.last=true/\r.part=0) then 8
 else if ¬(0<=r.c9/\r.c9<=999) then 6
 else if r.bS=true/\r.c9=0 then 8
 else 0
theorem fB {α:Type} {b:Bool} {p:Prop} [Decidable p] {x y x' y':α} (h:b=true↔p) (hx:p->x=x') (hy:¬p->y=y'):(if b=true then x else y)=if p then x' else y':=by
 by_cases hp:p
 ·rw [zab hp,zab (h.2 hp),hx hp]
 ·rw [zaa hp,zaa (λhb=>hp (h.1 hb)),hy hp]
theorem Kz {α:Type} {p:Prop} [Decidable p] {x y:α}:(if p then some x else some y)=some (if p then x else y):=by split <;> rfl
theorem Nv (r:aa) (ha:r.a.length<1000000000) (hb:r.b.length<1000000000):lB r=some (eb r):=by
 have key:∀ m,(m=1099511627776/\r.kind≠1)∨(m=604800/\r.kind=1)->fg r m=some (eb r):=by
  intro m hm;unfold fg eb;simp only [dE,Nu _ ha,Nu _ hb,zac,gn];simp only [←Kz];refine fB (by simp;grind) (λ_=>rfl) (λh1=>?_);refine fB (by simp;grind) (λ_=>rfl) (λh2=>?_);refine fB (by simp;grind) (λ_=>rfl) (λh3=>?_);refine fB (by simp;grind) (λ_=>rfl) (λh4=>?_);refine fB (by simp;grind) (λ_=>rfl) (λh5=>?_);rw [af (by omega)];refine fB (by simp) (λ_=>rfl) (λh6=>?_);refine fB (by simp;grind) (λ_=>rfl) (λh7=>?_);refine fB (by simp;grind) (λ_=>rfl) (λh8=>?_);refine fB (by simp;grind) (λ_=>rfl) (λh9=>?_);refine fB (by simp) (λ_=>rfl) (λKA=>rfl)
 unfold lB;split
 ·rename_i h;exact key _ (.inr ⟨rfl,by simpa using h⟩)
 ·rename_i h;exact key _ (.inl ⟨rfl,by simpa using h⟩)
theorem KB (r:aa) (ha:r.a.length<1000000000) (hb:r.b.length<1000000000):oZ r=some (eb r):=by
 unfold oZ eb;simp only [mB,E8 _ ha,E8 _ hb,zac,gn];simp only [←Kz];refine fB (by simp;grind) (λ_=>rfl) (λh1=>?_);refine fB (by simp;grind) (λ_=>rfl) (λh2=>?_);by_cases Z4:oW r.a=true
 ·rw [zaa (by simp [Z4])];refine fB (by simp [Z4];grind) (λ_=>rfl) (λh3=>?_);refine fB (by simp;grind) (λ_=>rfl) (λh4=>?_);refine fB (by simp;grind) (λ_=>rfl) (λh5=>?_);rw [af (by omega)];refine fB (by simp) (λ_=>rfl) (λh6=>?_);refine fB (by simp;grind) (λ_=>rfl) (λh7=>?_);refine fB (by simp;grind) (λ_=>rfl) (λh8=>?_);refine fB (by simp;grind) (λ_=>rfl) (λh9=>?_);refine fB (by simp) (λ_=>rfl) (λKA=>rfl)
 ·rw [zab (by simp [Z4]),zab (by simp [Z4])]
structure Good (r:aa):Prop where
 source:1<=r.source/\r.source<=99
 aI:1<=r.aI/\r.aI<=999999999
 kind:1<=r.kind/\r.kind<=4
 a:oW r.a=true
 b:oW r.b=true∨(r.kind=3∨r.kind=4)/\r.b=[]
 start:0<=r.start/\r.start<=12622780799
 cU:0<=r.cU/\r.cU<=1099511627776
 call:0<=r.call/\r.call<=999999999
 part:0<=r.part/\r.part<=99
 c9:0<=r.c9/\r.c9<=999
theorem lQ {r:aa} (h:eb r=0):Good r:=by
 unfold eb at h;split at h;· cases h
 split at h;· cases h
 split at h;· cases h
 split at h;· cases h
 split at h;· cases h
 split at h;· cases h
 split at h;· cases h
 split at h;· cases h
 split at h;· cases h
 split at h;· cases h
 rename_i h1 h2 h3 h4 h5 h6 h7 h8 h9 KA;refine ⟨by omega,by omega,by omega,?_,?_,by omega,by omega,by omega,by omega,by omega⟩
 ·cases hv:oW r.a with
  | true=>rfl
  | false=>exact absurd (.inl hv) h3
 ·cases hv:oW r.b with
  | true=>exact .inl rfl
  | false =>
   right;by_cases hh:(r.kind=3∨r.kind=4)/\r.b=[]
   ·exact hh
   ·exact absurd (.inr ⟨hv,hh⟩) h3
theorem qP {s:List UInt8} (h:oW s=true):s.length<=15:=by
 unfold oW at h;simp at h;exact h.2
def E9 (r:aa):List (List UInt8):=[(([118,116,100,99]:List UInt8).take r.kind.toNat).drop (r.kind-1).toNat,Go.Lib.itoa r.source,Go.Lib.itoa r.aI,r.a,if r.b=[] then [45] else r.b,Go.Lib.itoa r.start,Go.Lib.itoa r.cU]
def C5 (r:aa):List (List UInt8):=if r.part=0 then [] else [[112,97,114,116],Go.Lib.itoa r.call,Go.Lib.itoa r.part]++if r.last=true then [[108,97,115,116]] else []
def Am (r:aa):List (List UInt8):=if r.c9=0 then [] else [if r.bS=true then [105,110] else [111,117,116],Go.Lib.itoa r.c9]
def tP (r:aa):List (List UInt8):=E9 r++C5 r++Am r
def KC (r:aa):List UInt8:=Go.Lib.join (tP r) [32]
theorem Q0 (sep:List UInt8) (xs:List (List UInt8)) (m:Nat) (h:∀ x,x∈xs->x.length<=m):(Go.Lib.join xs sep).length<=xs.length*(m+sep.length):=by
 cases xs with
 | nil=>simp [Go.Lib.join]
 | cons x r =>
  rw [Go.Lib.join_cons];have h1:∀ (r:List (List UInt8)),(∀ x,x∈r->x.length<=m)->(Go.Lib.joinTail sep r).length<=r.length*(m+sep.length):=by
   intro r
   induction r with
   | nil=>simp [Go.Lib.joinTail]
   | cons y r ih =>
    intro hr;have:=ih λz hz=>hr z (zah _ hz)
    have h2:=hr y zaj;simp only [Go.Lib.joinTail,zao,zen,zai,zag,zda] at *;omega
  have h3:=h1 r λz hz=>h z (zah _ hz)
  have h4:=h x zaj;simp only [zai,zag,zda] at *;omega
theorem wJ {n:Int} (h0:0<=n) (h1:n<=9223372036854775807):(Go.Lib.itoa n).length<=21:=Go.Lib.itoa_length_le n (by omega) h1
theorem Q1 {r:aa} (g:Good r):(tP r).length<=13/\∀ x,x∈tP r->x.length<=21:=by
 have ha:=qP g.a;have hb:r.b.length<=15:=by
  rcases g.b with h|h
  ·exact qP h
  ·rw [h.2];simp
 obtain ⟨gs,ge,gk,_,_,gst,gu,gc,gp,gt⟩:=g;refine ⟨?_,λx hx=>?_⟩
 ·have h1:(C5 r).length<=4:=by unfold C5;split;simp;split <;> simp
  have h2:(Am r).length<=2:=by unfold Am;split <;> simp
  have h3:(E9 r).length=7:=rfl;simp only [tP,zai];omega
 ·unfold tP at hx;rcases zbm.1 hx with hx|hx
  ·rcases zbm.1 hx with hx|hx
   ·unfold E9 at hx;simp only [zaq,zef,or_false] at hx;rcases hx with rfl|rfl|rfl|rfl|rfl|rfl|rfl
    ·simp;omega
    ·exact wJ (by omega) (by omega)
    ·exact wJ (by omega) (by omega)
    ·omega
    ·split
     ·simp
     ·omega
    ·exact wJ (by omega) (by omega)
    ·exact wJ (by omega) (by omega)
   ·unfold C5 at hx;split at hx
    ·cases hx
    ·rcases zbm.1 hx with hx|hx
     ·simp only [zaq,zef,or_false] at hx;rcases hx with rfl|rfl|rfl
      ·simp
      ·exact wJ (by omega) (by omega)
      ·exact wJ (by omega) (by omega)
     ·split at hx
      ·simp only [zaq,zef,or_false] at hx;subst hx;simp
      ·cases hx
  ·unfold Am at hx;split at hx
   ·cases hx
   ·simp only [zaq,zef,or_false] at hx;rcases hx with rfl|rfl
    ·split <;> simp
    ·exact wJ (by omega) (by omega)
theorem An {n:Int} (h0:0<=n) (h1:n<=9223372036854775807):uK n=some (Go.Lib.itoa n):=by
 unfold uK;rw [af (by omega)]
theorem KD (r:aa) (h:eb r=0):fv r=some (KC r,0):=by
 have g:=lQ h;have ha:=qP g.a;have hb:r.b.length<=15:=by
  rcases g.b with h|h
  ·exact qP h
  ·rw [h.2];simp
 have QZ:∀ ws,ws=tP r->eP ws=some (KC r,0):=by
  rintro ws rfl;unfold eP Mh;obtain ⟨w1,w2⟩:=Q1 g;have:=Q0 [32] (tP r) 21 w2;simp only [zag,zay] at this;have h3:(tP r).length*22<=13*22:=zcq _ w1;rw [af ⟨by omega,by omega⟩];rfl
 have A8:∀ ws,ws=E9 r++C5 r->ws.length<=11->ed r ws=some (KC r,0):=by
  intro ws hw hl;unfold ed;by_cases ht:r.c9=0
  ·rw [zaa (by simp [ht])];exact QZ _ (by rw [hw,tP,Am,zab ht];simp)
  ·rw [zab (by simp [ht])];unfold fS;rw [An g.c9.1 (by have:=g.c9.2;omega)];simp only [zac];split
   ·rename_i hi;rw [af (by simp;omega)];exact QZ _ (by rw [hw,tP,Am,zaa ht,zab hi])
   ·rename_i hi;rw [af (by simp;omega)];exact QZ _ (by rw [hw,tP,Am,zaa ht,zaa hi])
 have p7:∀ b,b=(if r.b=[] then [45] else r.b)->eQ r b=some (KC r,0):=by
  rintro b rfl;unfold eQ;have gk:=g.kind;rw [af (by omega),af (by simp;omega),An (by have:=g.source;omega) (by have:=g.source;omega),An (by have:=g.aI;omega) (by have:=g.aI;omega),An g.start.1 (by have:=g.start;omega),An g.cU.1 (by have:=g.cU;omega)];simp only [zac];by_cases hp:r.part=0
  ·rw [zaa (by simp [hp])];exact A8 _ (by rw [C5,zab hp];simp [E9]) (by simp)
  ·rw [zab (by simp [hp]),An g.call.1 (by have:=g.call;omega),An g.part.1 (by have:=g.part;omega)];simp only [zac];rw [af (by simp)];split
   ·rename_i hl;rw [af (by simp)];exact A8 _ (by rw [C5,zaa hp,zab hl];simp [E9]) (by simp)
   ·rename_i hl;exact A8 _ (by rw [C5,zaa hp,zaa hl];simp [E9]) (by simp)
 unfold fv;rw [Nv r (by omega) (by omega),h];simp only [zac];rw [zaa (by simp)];split
 ·rename_i Vq;exact p7 _ (by rw [zab (by simpa using Vq)])
 ·rename_i Vq;exact p7 _ (by rw [zaa (by simpa using Vq)])
theorem KE (r:aa) (ha:r.a.length<1000000000) (hb:r.b.length<1000000000):fv r=some (if eb r=0 then KC r else [],eb r):=by
 by_cases h:eb r=0
 ·rw [KD r h,zab h,h]
 ·unfold fv;rw [Nv r ha hb,zaa h];simp only [zac];rw [zab (by simpa using h)]
def cn (a b:aa):Bool:=decide (a.source=b.source) && decide (a.call=b.call)
theorem o7 {a b:aa}:cn a b=true↔a.source=b.source/\a.call=b.call:=by simp [cn]
theorem oX {a b:aa} (h:cn a b=true):cn b a=true:=by rw [o7] at *;exact ⟨h.1.symm,h.2.symm⟩
theorem Bq {a b c:aa} (h:cn a b=true) (h':cn b c=true):cn a c=true:=by rw [o7] at *;exact ⟨h.1.trans h'.1,h.2.trans h'.2⟩
theorem Br {a x y:aa} (h:cn x y=true):cn a x=cn a y:=by
 rw [o7] at h;simp [cn,h.1,h.2]
def Lt (a b:aa):Prop:=a.source<b.source∨(a.source=b.source/\(a.call<b.call∨(a.call=b.call/\a.part<b.part)))
instance (a b:aa):Decidable (Lt a b):=by unfold Lt;infer_instance
def Le (a b:aa):Prop:=¬ Lt b a
instance (a b:aa):Decidable (Le a b):=by unfold Le;infer_instance
theorem IN {a b:aa}:Le a b↔a.source<b.source∨(a.source=b.source/\(a.call<b.call∨(a.call=b.call/\a.part<=b.part))):=by
 unfold Le Lt;omega
theorem KF {a b c:aa} (h:Le a b) (h':Le b c):Le a c:=by rw [IN] at *;omega
theorem KG {a b:aa} (h:Lt a b):Le a b:=by rw [IN];unfold Lt at h;omega
theorem SR {a b:aa} (h:Le a b) (hc:cn a b=true):a.part<=b.part:=by rw [IN] at h;rw [o7] at hc;omega
abbrev Pu (l:List aa):Prop:=l.Pairwise Le
def oE:List aa->aa->List aa
 | [],p=>[p]
 | r::l,p=>if Lt p r then p::r::l else r::oE l p
theorem yA:∀ (l:List aa) (p:aa),(oE l p).Perm (p::l)
 | [],p=>.refl _
 | r::l,p=>by
  unfold oE;split
  ·exact .refl _
  ·exact ((yA l p).cons r).trans (.swap _ _ _)
theorem Fa (l:List aa) (p:aa):(oE l p).length=l.length+1:=(yA l p).length_eq
theorem Bs {l:List aa} {p x:aa}:x∈oE l p↔x=p∨x∈l:=by rw [(yA l p).mem_iff,zaq]
theorem KH:∀ {l:List aa} {p:aa},Pu l->Pu (oE l p)
 | [],p,_=>by simp [oE,Pu]
 | r::l,p,h=>by
  unfold oE;have h2:=zax.1 h;split
  ·rename_i hp;refine zax.2 ⟨λx hx=>?_,h⟩;rcases zaq.1 hx with e|hx
   ·rw [e];exact KG hp
   ·exact KF (KG hp) (h2.1 x hx)
  ·rename_i hp;refine zax.2 ⟨λx hx=>?_,KH h2.2⟩;rcases Bs.1 hx with e|hx
   ·rw [e];exact hp
   ·exact h2.1 x hx
def pd (last:Bool) (x:aa):Int->List aa->List aa×List aa
 | _,[]=>([],[])
 | n,r::l=>if cn r x=true/\r.part=n then (if last=true/\r.last=true then ([r],l) else (r::(pd last x (n+1) l).1,(pd last x (n+1) l).2)) else ((pd last x n l).1,r::(pd last x n l).2)
theorem xY (last:Bool) (x:aa):∀ (n:Int) (l:List aa),((pd last x n l).1++(pd last x n l).2).Perm l
 | _,[]=>.refl _
 | n,r::l=>by
  unfold pd;split
  ·split
   ·exact .refl _
   ·exact (xY last x (n+1) l).cons r
  ·exact (List.perm_middle).trans ((xY last x n l).cons r)
theorem DO (last:Bool) (x:aa):∀ (n:Int) (l:List aa),(pd last x n l).2.Sublist l
 | _,[]=>.slnil
 | n,r::l=>by
  unfold pd;split
  ·split
   ·exact List.sublist_cons_self _ _
   ·exact (DO last x (n+1) l).cons r
  ·exact (DO last x n l).cons_cons r
theorem IP (last:Bool) {x y:aa} (h:cn x y=true):∀ (n:Int) (l:List aa),pd last x n l=pd last y n l
 | _,[]=>rfl
 | n,r::l=>by
  unfold pd;rw [Br (a:=r) h,IP last h (n+1) l,IP last h n l]
theorem Bt (last:Bool) {x:aa}:∀ {n:Int} {l:List aa},(∀ r,r∈l->¬(cn r x=true/\r.part=n))->pd last x n l=([],l)
 | _,[],_=>rfl
 | n,r::l,h=>by
  unfold pd;rw [zaa (h r (zaj ..)),Bt last (λy hy=>h y (zah _ hy))]
theorem Nw (last:Bool) {x:aa} {n:Int} {l:List aa}:∀ {pre:List aa},(∀ r,r∈pre->¬(cn r x=true/\r.part=n))->pd last x n (pre++l)=((pd last x n l).1,pre++(pd last x n l).2)
 | [],_=>rfl
 | r::pre,h=>by
  rw [List.cons_append]
  conv=>lhs;unfold pd
  rw [zaa (h r (zaj ..)),Nw last (λy hy=>h y (zah _ hy))];rfl
theorem Fb (last:Bool) {x:aa} {post:List aa} (h:∀ r,r∈post->cn r x=false):∀ {n:Int} {l:List aa},pd last x n (l++post)=((pd last x n l).1,(pd last x n l).2++post)
 | n,[]=>by rw [zbx,Bt last (λr hr hc=>by simp [h r hr] at hc)];rfl
 | n,r::l=>by
  rw [List.cons_append];unfold pd;simp only [Fb last h (n:=n+1) (l:=l),Fb last h (n:=n) (l:=l)];split
  ·split <;> rfl
  ·rfl
def Ao:List aa->Int
 | []=>0
 | r::l=>r.cU+Ao l
def IQ (q:aa) (u:Int):aa:=⟨q.source,q.aI,q.kind,q.a,q.b,q.start,u,0,0,false,q.c9,q.bS⟩
def Comm (p q:aa):Prop:=p.source=q.source/\p.call=q.call/\p.kind=q.kind/\p.a=q.a/\p.b=q.b/\p.c9=q.c9/\p.bS=q.bS
instance (a b:aa):Decidable (Comm a b):=by unfold Comm;infer_instance
def tQ:List aa->Option aa
 | []=>none
 | q::l=>if ((q::l).all λp=>decide (p.part≠0/\eb p=0/\Comm p q))=true/\eb (IQ q (Ao (q::l)))=0 then some (IQ q (Ao (q::l))) else none
def O0:Int->List aa->Bool
 | _,[]=>true
 | n,r::l=>decide (r.part=n) && decide (r.last=l.isEmpty) && O0 (n+1) l
def mX (l:List aa):Option aa:=if O0 1 l=true then tQ l else none
theorem Fc:mX []=none:=rfl
def fC:Nat->List aa->aa->List aa×List aa
 | 0,now,_=>([],now)
 | m+1,now,x=>match mX (pd true x 1 now).1 with
  | none=>([],now)
  | some w=>(w::(fC m (pd true x 1 now).2 x).1,(fC m (pd true x 1 now).2 x).2)
def kR (now:List aa) (r:aa):List aa×List aa:=if r.part=0 then ([r],now) else fC (now.length+2) (oE now r) r
def jm:List aa->List aa->List aa×List aa
 | now,[]=>([],now)
 | now,r::l=>((kR now r).1++(jm (kR now r).2 l).1,(jm (kR now r).2 l).2)
structure Z5 (l:List aa):Prop where
 IS:Pu l
 ok:∀ r,r∈l->eb r=0/\r.part≠0
 nc:∀ x,mX (pd true x 1 l).1=none
theorem yB {last:Bool} {x:aa} {n:Int} {l:List aa}:(pd last x n l).1.length+(pd last x n l).2.length=l.length:=by
 have:=(xY last x n l).length_eq
 rwa [zai] at this
theorem vI {l:List aa} {w:aa} (h:mX l=some w):l≠[]:=by intro e;rw [e,Fc] at h;cases h
abbrev KI (l:List aa):Prop:=l.Pairwise λa b=>¬(cn a b=true/\a.part=b.part)
def Q2 (T:List aa) (x:aa) (n:Int):Option aa:=T.find? (λr=>cn r x && decide (r.part=n))
theorem O1 {a b:aa} (h:¬(cn a b=true/\a.part=b.part)):¬(cn b a=true/\b.part=a.part):=λh'=>h ⟨oX h'.1,h'.2.symm⟩
theorem KI.perm {l l':List aa} (h:KI l) (p:l.Perm l'):KI l':=(p.pairwise_iff (λh=>O1 h)).1 h
theorem Nx {T:List aa} (h:KI T) {x:aa} {n:Int} {r:aa}:Q2 T x n=some r↔r∈T/\cn r x=true/\r.part=n:=by
 constructor
 ·intro hf;have h1:=List.find?_some hf;simp at h1;exact ⟨List.mem_of_find?_eq_some hf,h1⟩
 ·intro ⟨hm,hc,hn⟩
  induction T with
  | nil=>cases hm
  | cons y T ih =>
   have h2:=zax.1 h;unfold Q2;rcases zaq.1 hm with e|hm
   ·rw [←e,List.find?_cons_of_pos (by simp [hc,hn])]
   ·rw [List.find?_cons_of_neg (by
     intro hy;simp at hy;exact h2.1 r hm ⟨Bq hy.1 (oX hc),by omega⟩)]
    exact ih h2.2 hm
theorem Q3 {T T':List aa} (h:KI T) (p:T.Perm T') (x:aa) (n:Int):Q2 T x n=Q2 T' x n:=by
 apply Option.ext;intro r;rw [Nx h,Nx (h.perm p),p.mem_iff]
def Wz (T:List aa) (x:aa):Nat->Int->List aa
 | 0,_=>[]
 | m+1,n=>match Q2 T x n with
  | none=>[]
  | some r=>r::if r.last=true then [] else Wz T x m (n+1)
theorem vJ {T T':List aa} {x y:aa} (h:∀ n,Q2 T x n=Q2 T' y n):∀ (m:Nat) (n:Int),Wz T x m n=Wz T' y m n
 | 0,_=>rfl
 | m+1,n=>by
  unfold Wz;rw [h n,vJ h m (n+1)]
theorem DP {T:List aa} {x:aa}:∀ (m:Nat) (n:Int) (r:aa),r∈Wz T x m n->r∈T/\cn r x=true
 | 0,_,r,h=>by cases h
 | m+1,n,r,h=>by
  unfold Wz at h;split at h
  ·cases h
  ·rename_i y hy;have h1:=List.find?_some hy;simp at h1;rcases zaq.1 h with e|h
   ·rw [e];exact ⟨List.mem_of_find?_eq_some hy,h1.1⟩
   ·split at h
    ·cases h
    ·exact DP m (n+1) r h
abbrev KJ (T:List aa) (x:aa):List aa:=Wz T x 99 1
theorem Bu {T T':List aa} (h:KI T) (p:T.Perm T') (x:aa):KJ T x=KJ T' x:=vJ (Q3 h p x) _ _
theorem SS {T:List aa} {x y:aa} (h:cn x y=true):KJ T x=KJ T y:=vJ (λn=>by
 unfold Q2;congr 1;funext r;rw [Br (a:=r) h]) _ _
theorem zF {C U:List aa} {x:aa} (h:∀ r,r∈C->cn r x=false) (n:Int):Q2 (C++U) x n=Q2 U x n:=by
 unfold Q2;rw [List.find?_append,List.find?_eq_none.2 (λr hr=>by simp [h r hr])];rfl
def Ny (T:List aa) (w:aa) (U:List aa):Prop:=KI T/\∃ x,mX (KJ T x)=some w/\T.Perm (KJ T x++U)
theorem Ny.perm {T T' U:List aa} {w:aa} (h:Ny T w U) (p:T.Perm T'):Ny T' w U:=by
 obtain ⟨h1,x,h2,h3⟩:=h;refine ⟨h1.perm p,x,?_,?_⟩
 ·rw [←Bu h1 p];exact h2
 ·rw [←Bu h1 p];exact p.symm.trans h3
theorem Ny.len {T U:List aa} {w:aa} (h:Ny T w U):U.length<T.length:=by
 obtain ⟨h1,x,h2,h3⟩:=h;have:=h3.length_eq;have h4:0<(KJ T x).length:=zcw.2 (vI h2);rw [zai] at this;omega
theorem Ny.Zn {T U:List aa} {w:aa} (h:Ny T w U):KI U:=by
 obtain ⟨h1,x,h2,h3⟩:=h;exact (List.pairwise_append.1 (h1.perm h3)).2.1
theorem filter_none {p:aa->Bool} {l:List aa} (h:∀ r,r∈l->p r=false):l.filter p=[]:=zdl.2 (λr hr=>by simp [h r hr])
theorem filter_all {p:aa->Bool} {l:List aa} (h:∀ r,r∈l->p r=true):l.filter p=l:=zdn.2 h
theorem IT (p:aa->Bool) (l:List aa):l.Perm (l.filter p++l.filter (λr=>!p r)):=(List.filter_append_perm p l).symm
theorem Ny.SU {T U1 U2:List aa} {w1 w2:aa} (h1:Ny T w1 U1) (h2:Ny T w2 U2):(w1=w2/\U1.Perm U2)∨∃ V,Ny U1 w2 V/\Ny U2 w1 V:=by
 have d1:=h1.Zn;have d2:=h2.Zn;obtain ⟨hd,x,hx,px⟩:=h1;obtain ⟨_,y,hy,py⟩:=h2;by_cases hc:cn x y=true
 ·left;rw [SS hc] at hx px;rw [hx] at hy;exact ⟨by injection hy,(List.perm_append_left_iff _).1 (px.symm.trans py)⟩
 ·right;have nx:∀ r,r∈KJ T x->cn r y=false:=λr hr=>by
   cases hry:cn r y with
   | false=>rfl
   | true=>exact absurd (Bq (oX (DP _ _ r hr).2) hry) hc
  have ny:∀ r,r∈KJ T y->cn r x=false:=λr hr=>by
   cases hrx:cn r x with
   | false=>rfl
   | true=>exact absurd (oX (Bq (oX (DP _ _ r hr).2) hrx)) hc
  have e1:KJ U1 y=KJ T y:=by
   rw [Bu hd px y];exact (vJ (zF nx) _ _).symm
  have e2:KJ U2 x=KJ T x:=by
   rw [Bu hd py x];exact (vJ (zF ny) _ _).symm
  have fy:=px.symm.trans py;have q1:=fy.filter (λr=>cn r y);rw [zdo,zdo,filter_none nx,filter_all (λr hr=>(DP _ _ r hr).2),zbx] at q1;have p1:U1.Perm (KJ T y++(U2.filter (λr=>cn r y)++U1.filter (λr=>!cn r y))):=by
   refine (IT (λr=>cn r y) U1).trans ?_;rw [←zat];exact q1.append_right _
  refine ⟨U2.filter (λr=>cn r y)++U1.filter (λr=>!cn r y),⟨d1,y,by rw [e1];exact hy,by rw [e1];exact p1⟩,⟨d2,x,by rw [e2];exact hx,?_⟩⟩;rw [e2];have k1:T.Perm (KJ T y++(KJ T x++(U2.filter (λr=>cn r y)++U1.filter (λr=>!cn r y)))):=by
   refine px.trans ((p1.append_left _).trans ?_);rw [←zat,←zat (KJ T y)];exact List.perm_append_comm.append_right _
  exact (List.perm_append_left_iff _).1 (py.symm.trans k1)
inductive zd:List aa->List aa->List aa->Prop where
 | nil {T U:List aa}:T.Perm U->zd T [] U
 | cons {T U V:List aa} {w:aa} {o:List aa}:Ny T w U->zd U o V->zd T (w::o) V
def NF (T:List aa):Prop:=∀ w U,¬ Ny T w U
theorem zd.perm {T T' o U:List aa} (h:zd T o U) (p:T.Perm T'):zd T' o U:=by
 cases h with
 | nil q=>exact .nil (p.symm.trans q)
 | cons r s=>exact .cons (r.perm p) s
theorem zd.ex:∀ (n:Nat) (T:List aa),T.length<=n->∃ o U,zd T o U/\NF U
 | n,T,hn=>by
  by_cases h:NF T
  ·exact ⟨[],T,.nil (.refl _),h⟩
  ·simp only [NF,Classical.not_forall,Classical.not_not] at h;obtain ⟨w,U,h⟩:=h;have hl:=h.len
   match n,hn with
   | 0,hn=>omega
   | n+1,hn =>
    obtain ⟨o,V,h1,h2⟩:=zd.ex n U (by omega);exact ⟨w::o,V,.cons h h1,h2⟩
theorem zd.uniq:∀ (n:Nat) {T o1 o2 U1 U2:List aa},T.length<=n->zd T o1 U1->NF U1->zd T o2 U2->NF U2->o1.Perm o2/\U1.Perm U2
 | n,T,o1,o2,U1,U2,hn,h1,n1,h2,n2=>by
  cases h1 with
  | nil p1 =>
   cases h2 with
   | nil p2=>exact ⟨.refl _,p1.symm.trans p2⟩
   | cons r s=>exact absurd (r.perm p1) (n1 _ _)
  | cons r1 s1 =>
   rename_i V1 w1 q1;cases h2 with
   | nil p2=>exact absurd (r1.perm p2) (n2 _ _)
   | cons r2 s2 =>
    rename_i V2 w2 q2;have l1:=r1.len;have l2:=r2.len
    match n,hn with
    | 0,hn=>omega
    | n+1,hn =>
     rcases r1.SU r2 with ⟨e,p⟩|⟨V,k1,k2⟩
     ·obtain ⟨a,b⟩:=zd.uniq n (by omega) s1 n1 (s2.perm p.symm) n2;rw [e];exact ⟨a.cons _,b⟩
     ·obtain ⟨o3,U3,s3,n3⟩:=zd.ex V.length V (zap _);obtain ⟨a1,b1⟩:=zd.uniq n (by omega) s1 n1 (.cons k1 s3) n3;obtain ⟨a2,b2⟩:=zd.uniq n (by omega) s2 n2 (.cons k2 s3) n3;exact ⟨(a1.cons _).trans ((List.Perm.swap _ _ _).trans (a2.cons _).symm),b1.trans b2.symm⟩
def nI:Int->List Int->List aa->List aa×List aa
 | _,_,[]=>([],[])
 | _,[],r::l=>([],r::l)
 | i,a::at',r::l=>if a=i then (r::(nI (i+1) at' l).1,(nI (i+1) at' l).2) else ((nI (i+1) (a::at') l).1,r::(nI (i+1) (a::at') l).2)
def mY (last:Bool) (x:aa):Int->Int->List aa->List Int
 | _,_,[]=>[]
 | n,i,r::l=>if cn r x=true/\r.part=n then (if last=true/\r.last=true then [i] else i::mY last x (n+1) (i+1) l) else mY last x n (i+1) l
theorem qQ (i:Int) (l:List aa):nI i [] l=([],l):=by cases l <;> rfl
theorem Bv (last:Bool) (x:aa):∀ (n i:Int) (l:List aa),∀ a,a∈mY last x n i l->i<=a/\a<i+l.length
 | _,_,[]=>by simp [mY]
 | n,i,r::l=>by
  intro a h;unfold mY at h;simp only [zag];split at h
  ·split at h
   ·simp at h;omega
   ·rcases zaq.1 h with e|h
    ·omega
    ·have:=Bv last x (n+1) (i+1) l a h;omega
  ·have:=Bv last x n (i+1) l a h;omega
theorem Fe (last:Bool) (x:aa):∀ (n i:Int) (l:List aa),(mY last x n i l).Pairwise (· < ·)
 | _,_,[]=>.nil
 | n,i,r::l=>by
  unfold mY;split
  ·split
   ·simp
   ·refine zax.2 ⟨λa ha=>?_,Fe last x (n+1) (i+1) l⟩;have:=Bv last x (n+1) (i+1) l a ha;omega
  ·exact Fe last x n (i+1) l
theorem Mt {i:Int} {at':List Int} {r:aa} {l:List aa} (h:∀ a,a∈at'->i+1<=a):nI i at' (r::l)=((nI (i+1) at' l).1,r::(nI (i+1) at' l).2):=by
 cases at' with
 | nil=>rw [qQ,qQ]
 | cons a at' =>
  conv=>lhs;unfold nI
  rw [zaa (by have:=h a (zaj ..);omega)]
theorem tR (last:Bool) (x:aa):∀ (n i:Int) (l:List aa),nI i (mY last x n i l) l=pd last x n l
 | _,_,[]=>by simp [mY,nI,pd]
 | n,i,r::l=>by
  unfold mY pd;split
  ·split
   ·unfold nI;rw [zab rfl,qQ]
   ·unfold nI;rw [zab rfl,tR last x (n+1) (i+1) l]
  ·rw [Mt (λa ha=>(Bv _ _ _ _ _ a ha).1),tR last x n (i+1) l]
def IU (x:aa) (l:List aa):List aa:=l.takeWhile (λr=>cn r x)
def Ff (x:aa) (l:List aa):List aa:=l.dropWhile (λr=>cn r x)
theorem Mu (x:aa):cn x x=true:=by simp [cn]
theorem Q4 (x:aa) (l:List aa):IU x l++Ff x l=l:=List.takeWhile_append_dropWhile
theorem Q5 {x:aa} {l:List aa}:∀ r,r∈IU x l->cn r x=true:=λr h=>by
 have:=List.all_takeWhile (p:=λr=>cn r x) (l:=l);rw [zbd] at this;exact this r h
theorem O2 {x:aa} {l:List aa} (h:Pu (x::l)):∀ r,r∈Ff x (x::l)->cn r x=false:=by
 intro r hr;unfold Ff at hr;rw [List.dropWhile_cons_of_pos (p:=λr=>cn r x) (Mu x)] at hr;have h2:=zax.1 h;have hs:(l.dropWhile (λr=>cn r x)).Sublist l:=List.dropWhile_sublist _;have h3:=h2.2.sublist hs;cases hd:l.dropWhile (λr=>cn r x) with
 | nil=>rw [hd] at hr;cases hr
 | cons y t =>
  have hy:cn y x=false:=by
   have:=List.head?_dropWhile_not (λr=>cn r x) l;rw [hd] at this;simpa using this
  rw [hd] at hr h3;rcases zaq.1 hr with e|hr
  ·rw [e];exact hy
  ·have k1:=h2.1 y (hs.subset (by rw [hd];exact zaj ..));have k2:=(zax.1 h3).1 r hr;cases hc:cn r x with
   | false=>rfl
   | true =>
    exfalso;rw [IN] at k1 k2;rw [o7] at hc;have:¬ cn y x=true:=by rw [hy];simp
    rw [o7] at this;omega
theorem KK {S R α:Type} [Inhabited α] {step:S->Option (S ⊕ R)} (l:List α) (idx:S->Int) (F:S->List α->Option R) (I:S->List α->Prop) (hl:l.length<1000000000)
  (h0:∀ s,I s []->idx s=(l.length:Int)->∃ r,step s=some (.inr r)/\F s []=some r)
  (h1:∀ s a t,I s (a::t)->0<=idx s->idx s<(l.length:Int)->nth l (idx s).toNat=a->idx s+1+(t.length:Int)=(l.length:Int) ->
   (∃ r,step s=some (.inr r)/\F s (a::t)=some r)∨∃ s',step s=some (.inl s')/\I s' t/\idx s'=idx s+1/\F s' t=F s (a::t))
  {s:S} (hi:0<=idx s/\idx s<=(l.length:Int)) (hI:I s (l.drop (idx s).toNat)):loop step s=F s (l.drop (idx s).toNat):=by
 refine ng (step:=step) (λs=>F s (l.drop (idx s).toNat)) (λs=>(0<=idx s/\idx s<=(l.length:Int))/\I s (l.drop (idx s).toNat)) (λs=>((l.length:Int) - idx s).toNat) (λs hs=>?_) ⟨hi,hI⟩ (by omega);obtain ⟨⟨b0,b1⟩,hs⟩:=hs;by_cases cE:idx s<(l.length:Int)
 ·have hd:=td (l:=l) (k:=(idx s).toNat) (by omega);rw [hd] at hs ⊢;rcases h1 s _ _ hs b0 cE rfl (by rw [zbi];omega) with ⟨r,e1,e2⟩|⟨s',e1,e2,e3,e4⟩
  ·exact .inl ⟨r,e1,e2⟩
  ·refine .inr ⟨s',e1,⟨by omega,?_⟩,by omega,?_⟩
   ·rw [e3,show (idx s+1).toNat=(idx s).toNat+1 from by omega];exact e2
   ·rw [e3,show (idx s+1).toNat=(idx s).toNat+1 from by omega];exact e4
 ·have he:idx s=(l.length:Int):=by omega
  rw [zdb (by omega)] at hs ⊢;exact .inl (h0 s hs he)
theorem bp {S R α:Type} [Inhabited α] {step:S->Option (S ⊕ R)} (l:List α) (idx:S->Int) (F:S->List α->Option R) (I:S->List α->Prop) (hl:l.length<1000000000)
  (h0:∀ s,I s []->idx s=(l.length:Int)->∃ r,step s=some (.inr r)/\F s []=some r)
  (h1:∀ s a t,I s (a::t)->0<=idx s->idx s<(l.length:Int)->nth l (idx s).toNat=a->idx s+1+(t.length:Int)=(l.length:Int) ->
   (∃ r,step s=some (.inr r)/\F s (a::t)=some r)∨∃ s',step s=some (.inl s')/\I s' t/\idx s'=idx s+1/\F s' t=F s (a::t))
  {s:S} (hi:idx s=0) (hI:I s l):loop step s=F s l:=by
 have:=KK l idx F I hl h0 h1 (s:=s) ⟨by omega,by omega⟩ (by rw [hi];exact hI);rw [hi] at this;exact this
def Sm (r:aa):Prop:=r.a.length<=200/\r.b.length<=200
instance (r:aa):Decidable (Sm r):=by unfold Sm;infer_instance
theorem IV (r:aa) (h:Sm r):dF r=some (eb r):=by
 unfold dF;unfold Sm at h;rw [KE r (by omega) (by omega)];rfl
theorem xZ (r:aa) (h:Sm r):gM r=some (eb r):=by
 unfold gM;unfold Sm at h;rw [KB r (by omega) (by omega)];rfl
theorem IW {r:aa} (h:eb r=0):Sm r:=by
 have g:=lQ h;have ha:=qP g.a;unfold Sm;rcases g.b with h|h
 ·have:=qP h;omega
 ·rw [h.2];simp;omega
theorem aa.wK (r:aa):ew r.bP r.bP=true:=by simp [aa.bP,ew,LO]
theorem Ua {q:aa} (h:Sm q) (u:Int):Sm (IQ q u):=h
def Ub:aa×Bool:=((⟨0,0,0,([]:List UInt8),([]:List UInt8),0,0,0,0,false,0,false⟩:aa),false)
def xg:Option aa->aa×Bool
 | none=>Ub
 | some w=>(w,true)
def Uc (q p:aa):Prop:=p.part≠0/\eb p=0/\Comm p q
instance (q p:aa):Decidable (Uc q p):=by unfold Uc;infer_instance
theorem KL {q:aa} {u v:Int} (h:eb (IQ q v)=0) (h0:0<=u) (h1:u<=v):eb (IQ q u)=0:=by
 have g:=lQ h;unfold eb IQ at h ⊢;simp only at h ⊢;split at h;· cases h
 split at h;· cases h
 split at h;· cases h
 split at h;· cases h
 split at h;· cases h
 split at h;· cases h
 rename_i q1 q2 q3 q4 q5 q6;rw [zaa q1,zaa q2,zaa q3,zaa q4,zaa (by omega),zaa (by omega)];exact h
theorem KM {q:aa}:∀ {t:List aa},(∀ p,p∈t->Uc q p)->0<=Ao t
 | [],_=>by simp [Ao]
 | r::t,h=>by
  have:=KM (λp hp=>h p (zah _ hp));have:=(lQ (h r (zaj ..)).2.1).cU;simp only [Ao];omega
def O3 (q:aa) (u:Int) (t:List aa):Option aa:=if (t.all λp=>decide (Uc q p))=true/\eb (IQ q (u+Ao t))=0 then some (IQ q (u+Ao t)) else none
theorem Fg (q:aa) (l:List aa):tQ (q::l)=O3 q 0 (q::l):=by
 unfold tQ O3;rw [Int.zero_add];rfl
theorem Bw {q r:aa} {u:Int} {t:List aa} (h:Uc q r):O3 q u (r::t)=O3 q (u+r.cU) t:=by
 unfold O3;have e:u+Ao (r::t)=u+r.cU+Ao t:=by simp only [Ao];omega
 rw [e,zej,zdu h,zcn]
theorem DQ {q r:aa} {u:Int} {t:List aa} (h:¬ Uc q r):O3 q u (r::t)=none:=by
 unfold O3;rw [zej,zdf h,zct,zaa (by simp)]
theorem KN {q:aa} {u:Int} {t:List aa} (h0:0<=u) (h:eb (IQ q u)≠0):O3 q u t=none:=by
 unfold O3;rw [zaa];rintro ⟨h1,h2⟩;have hp:=KM (q:=q) (t:=t) (λp hp=>by have:=zbd.1 h1 p hp;simpa using this);exact h (KL h2 h0 (by omega))
theorem O4 (p q:aa):ew (bD.bP (⟨⟨p.source,p.call⟩,p.kind,p.a,p.b,p.c9,p.bS⟩:bD)) (bD.bP (⟨⟨q.source,q.call⟩,q.kind,q.a,q.b,q.c9,q.bS⟩:bD))=decide (Comm p q):=by
 rw [zbz,zcm];simp [bD.bP,ew,LO,Comm]
theorem SV (l:List aa) (hs:∀ r,r∈l->Sm r) (hl:l.length<=1000):jB l=some (xg (tQ l)):=by
 cases l with
 | nil=>rfl
 | cons q l =>
  rw [Fg];unfold jB;have hq:=hs q (zaj ..);have e0:nth (q::l) (Int.toNat 0)=q:=rfl;rw [zaa (by simp;omega),af (by simp),e0];simp only [lZ,zac];refine bp (q::l) (λs:Int×Int=>s.1) (λs t=>some (xg (O3 q s.2 t))) (λs t=>0<=s.2/\s.2<=1099511627776/\∀ r,r∈t->Sm r) (by omega) ?_ ?_ rfl ⟨by decide,by decide,hs⟩
  ·rintro ⟨i,u⟩ ⟨h0,h1,h2⟩ hi;simp only at h0 h1 hi ⊢;unfold jA gK;rw [zaa (by simp only [zak];omega)];change ∃ r,Option.map _ ((dF (IQ q u)).bind _)=_/\_;rw [IV _ (Ua hq u)];simp only [zac,O3,List.all_nil,Ao,true_and,Int.add_zero];by_cases he:eb (IQ q u)=0
   ·rw [zaa (by simp [he]),zab he];exact ⟨_,rfl,rfl⟩
   ·rw [zab (by simpa using he),zaa he];exact ⟨_,rfl,rfl⟩
  ·rintro ⟨i,u⟩ r t ⟨h0,h1,h2⟩ gS fc hn hlen;simp only at h0 h1 gS fc hn hlen ⊢;unfold jA;have hr:=h2 r (zaj ..);rw [zab (by simpa using fc),af ⟨gS,fc⟩,hn,IV r hr,e0];simp only [gJ,c6,gn,zac];by_cases hk:r.part≠0/\eb r=0
   ·have b1:(r.part==0)=false:=by simpa using hk.1
    have b2:(eb r != 0)=false:=by simp [hk.2]
    simp only [b1,b2,zcj,zds,zbu,zdc];rw [af (by simp),O4];by_cases hc:Comm r q
    ·rw [af (by omega)];have gu:=(lQ hk.2).cU;have xt:Uc q r:=⟨hk.1,hk.2,hc⟩;by_cases hu:r.cU > 1099511627776-u
     ·rw [zab (by simp [hc];omega)];refine .inl ⟨_,rfl,?_⟩;rw [Bw xt,KN (by omega)]
      ·rfl
      ·intro he;have:=(lQ he).cU;simp only [IQ] at this;omega
     ·rw [zaa (by simp [hc];omega),af (by omega),af (by omega)];refine .inr ⟨_,rfl,⟨by simp only;omega,by simp only;omega,λp hp=>h2 p (zah _ hp)⟩,rfl,?_⟩
      rw [Bw xt]
    ·rw [af (by simp [hc]),zab (by simp [hc])];refine .inl ⟨_,rfl,?_⟩;rw [DQ (λh=>hc h.2.2)];rfl
   ·have hb:((r.part==0) || ((if (!(r.part==0))=true then eb r else default) != 0))=true:=by
     by_cases hp:r.part=0
     ·simp [hp]
     ·simp [hp];intro he;exact hk ⟨hp,he⟩
    simp only [hb,zci,zes,zaz,zbt];rw [af (by simp),af (by simp),zab trivial];refine .inl ⟨_,rfl,?_⟩;rw [DQ (λh=>hk ⟨h.1,h.2.1⟩)];rfl
theorem Q6 (l:List aa) (hs:∀ r,r∈l->Sm r) (hl:l.length<=1000):o4 l=some (xg (tQ l)):=by
 cases l with
 | nil =>
  unfold o4;refine bp ([]:List aa) (λs:Int×Int×Int×Int×List UInt8×List UInt8×Int×Int×Int×Bool=>s.1) (λs t=>some (xg (tQ []))) (λs t=>s=(0,0,0,0,([]:List UInt8),([]:List UInt8),0,0,0,false)/\t=[]) (by simp) ?_ ?_ rfl ⟨rfl,rfl⟩
  ·rintro s ⟨h,_⟩ hi;rw [h];exact ⟨_,rfl,rfl⟩
  ·rintro s a t ⟨_,h⟩;cases h
 | cons q l =>
  rw [Fg];unfold o4;have hq:=hs q (zaj ..);have e0:nth (q::l) (Int.toNat 0)=q:=rfl;have Zo:(0:Int)<((q::l).length:Int):=by simp only [zag];omega
  refine bp (q::l) (λs:Int×Int×Int×Int×List UInt8×List UInt8×Int×Int×Int×Bool=>s.1) (λs t=>some (xg (O3 q s.2.2.2.2.2.2.2.1 t)))
   (λs t=>(0<=s.2.2.2.2.2.2.2.1/\s.2.2.2.2.2.2.2.1<=1099511627776)/\(∀ r,r∈t->Sm r)/\(s.1=0∨(eb (IQ q s.2.2.2.2.2.2.2.1)=0/\s=(s.1,q.source,q.aI,q.kind,q.a,q.b,q.start,s.2.2.2.2.2.2.2.1,q.c9,q.bS)))) (by omega) ?_ ?_ rfl ⟨by decide,hs,.inl rfl⟩
  ·rintro ⟨i,c0,c1,c2,c3,c4,c5,u,c10,c11⟩ ⟨h0,h1,h2⟩ hi;simp only at h0 h1 h2 hi ⊢;rcases h2 with h2|⟨h2,h3⟩
   ·omega
   ·injection h3 with _ h3;injection h3 with e0 h3;injection h3 with e1 h3;injection h3 with e2 h3;injection h3 with e3 h3;injection h3 with e4 h3;injection h3 with e5 h3;injection h3 with _ h3;injection h3 with e10 e11;subst e0 e1 e2 e3 e4 e5 e10 e11;unfold pK mE;rw [zaa (by simp only [zak];omega),zdu Zo];refine ⟨_,rfl,?_⟩;simp only [O3,List.all_nil,Ao,true_and,Int.add_zero];rw [zab h2];rfl
  ·rintro ⟨i,c0,c1,c2,c3,c4,c5,u,c10,c11⟩ r t ⟨h0,h1,h2⟩ gS fc hn hlen;simp only at h0 h1 h2 gS fc hn hlen ⊢;clear h2;unfold pK;have hr:=h1 r (zaj ..);rw [zab (by simpa using fc),af ⟨gS,fc⟩,hn,xZ r hr,e0];simp only [qC,gn,zac];by_cases hk:r.part≠0/\eb r=0
   ·have b1:(r.part==0)=false:=by simpa using hk.1
    have gu:=(lQ hk.2).cU;rw [zaa (by simp [b1,hk.2]),af (by omega),af ⟨zfi _,Zo⟩];by_cases hc:Comm r q
    ·have xt:Uc q r:=⟨hk.1,hk.2,hc⟩;rw [zaa (by
      obtain ⟨a1,a2,a3,a4,a5,a6,a7⟩:=hc;simp [a1,a2,a3,a4,a5,a6,a7])]
     change (∃ r_1,((gM (IQ q (u+r.cU))).bind _)=_/\_)∨∃ s',((gM (IQ q (u+r.cU))).bind _)=_/\_;rw [xZ _ (Ua hq _)];simp only [zac];by_cases he:eb (IQ q (u+r.cU))=0
     ·have ge:=(lQ he).cU;simp only [IQ] at ge;rw [zaa (by simp [he]),af (by omega)];refine .inr ⟨_,rfl,⟨by simp only;omega,λp hp=>h1 p (zah _ hp),.inr ⟨he,rfl⟩⟩,rfl,?_⟩
      rw [Bw xt]
     ·rw [zab (by simpa using he)];refine .inl ⟨_,rfl,?_⟩;rw [Bw xt,KN (by omega) he];rfl
    ·rw [zab (by
      unfold Comm at hc;simp only [zbv,zdq,Bool.and_eq_false_iff,bne_iff_ne,zeh];by_cases a1:r.source=q.source
      ·by_cases a2:r.call=q.call
       ·by_cases a3:r.kind=q.kind
        ·by_cases a4:r.a=q.a
         ·by_cases a5:r.b=q.b
          ·by_cases a6:r.c9=q.c9
           ·by_cases a7:r.bS=q.bS
            ·exact absurd ⟨a1,a2,a3,a4,a5,a6,a7⟩ hc
            ·exact .inr a7
           ·exact .inl (.inr a6)
          ·exact .inl (.inl (.inr a5))
         ·exact .inl (.inl (.inl (.inr a4)))
        ·exact .inl (.inl (.inl (.inl (.inr a3))))
       ·exact .inl (.inl (.inl (.inl (.inl (.inr a2)))))
      ·exact .inl (.inl (.inl (.inl (.inl (.inl a1))))))]
     refine .inl ⟨_,rfl,?_⟩;rw [DQ (λh=>hc h.2.2)];rfl
   ·rw [zab (by
     by_cases hp:r.part=0
     ·simp [hp]
     ·simp [hp];intro he;exact hk ⟨hp,he⟩)]
    refine .inl ⟨_,rfl,?_⟩;rw [DQ (λh=>hk ⟨h.1,h.2.1⟩)];rfl
theorem Nz (b:Bool) (o:Option aa):(if b=true then xg o else Ub)=xg (if b=true then o else none):=by split <;> rfl
theorem Fh (l:List aa) (hs:∀ r,r∈l->Sm r) (hl:l.length<=1000):gL l=some (xg (mX l)):=by
 unfold gL mX;rw [←Nz];refine bp l (λs:Int=>s) (λs t=>some (if O0 (s+1) t=true then xg (tQ l) else Ub)) (λs t=>True) (by omega) ?_ ?_ rfl trivial
 ·intro i _ hi;unfold gT fx;rw [zaa (by simp only [zak];omega),SV l hs hl];exact ⟨_,rfl,rfl⟩
 ·intro i r t _ gS fc hn hlen;unfold gT;rw [zab (by simpa using fc),af ⟨gS,fc⟩,hn,af (by omega),af (λ_=>by omega)];have el:(i==(l.length:Int) - 1)=t.isEmpty:=by
   rw [zbz];cases t with
   | nil=>simp at hlen ⊢;omega
   | cons=>simp at hlen ⊢;omega
  rw [el];simp only [O0];by_cases hp:r.part=i+1
  ·by_cases Gu:r.last=t.isEmpty
   ·rw [zaa (by simp [hp,Gu]),af (by omega)];refine .inr ⟨_,rfl,trivial,rfl,?_⟩;simp [hp,Gu]
   ·rw [zab (by simp [hp,Gu])];refine .inl ⟨_,rfl,?_⟩;simp [hp,Gu];rfl
  ·rw [zab (by simp [hp])];refine .inl ⟨_,rfl,?_⟩;simp [hp];rfl
theorem C6 (l:List aa) (hs:∀ r,r∈l->Sm r) (hl:l.length<=1000):kx l=some (xg (mX l)):=by
 unfold kx mX;rw [←Nz];refine bp l (λs:Int=>s) (λs t=>some (if O0 (s+1) t=true then xg (tQ l) else Ub)) (λs t=>True) (by omega) ?_ ?_ rfl trivial
 ·intro i _ hi;unfold l9 jE;rw [zaa (by simp only [zak];omega),Q6 l hs hl];exact ⟨_,rfl,rfl⟩
 ·intro i r t _ gS fc hn hlen;unfold l9;rw [zab (by simpa using fc),af ⟨gS,fc⟩,hn,af (by omega),af (λ_=>⟨gS,fc⟩),af (λ_=>by omega)];have el:((i+1)==(l.length:Int))=t.isEmpty:=by
   rw [zbz];cases t with
   | nil=>simp at hlen ⊢;omega
   | cons=>simp at hlen ⊢;omega
  rw [el];simp only [O0];by_cases hp:r.part=i+1
  ·by_cases Gu:r.last=t.isEmpty
   ·rw [zaa (by simp [hp,Gu]),af (by omega)];refine .inr ⟨_,rfl,trivial,rfl,?_⟩;simp [hp,Gu]
   ·rw [zab (by simp [hp,Gu])];refine .inl ⟨_,rfl,?_⟩;simp [hp,Gu];rfl
  ·rw [zab (by simp [hp])];refine .inl ⟨_,rfl,?_⟩;simp [hp];rfl
theorem KO (l:List aa) (x:aa) (last:Bool) (hl:l.length<=1000):nr l x last=some (mY last x 1 0 l):=by
 unfold nr;refine bp l (λs:List Int×Int=>s.2) (λs t=>some (s.1++mY last x ((s.1.length:Int)+1) s.2 t)) (λs t=>(s.1.length:Int)<=s.2) (by omega) ?_ ?_ rfl (by simp)
 ·rintro ⟨out,i⟩ h hi;simp only at h hi ⊢;unfold oJ;rw [zaa (by simp only [zak];omega)];exact ⟨_,rfl,by simp [mY]⟩
 ·rintro ⟨out,i⟩ r t h gS fc hn hlen;simp only at h gS fc hn hlen ⊢;unfold oJ;rw [zab (by simpa using fc),af ⟨gS,fc⟩,hn];simp only [qC,zac];rw [af (λ_=>⟨gS,fc⟩),af (λ_=>by omega)];have ec:((r.source==x.source) && (r.call==x.call))=cn r x:=by rw [zbz,o7];simp
  rw [ec,show mY last x ((out.length:Int)+1) i (r::t)=(if cn r x=true/\r.part=(out.length:Int)+1 then (if last=true/\r.last=true then [i] else i::mY last x ((out.length:Int)+1+1) (i+1) t) else mY last x ((out.length:Int)+1) (i+1) t) from rfl];by_cases hc:cn r x=true/\r.part=(out.length:Int)+1
  ·rw [zab (by simp [hc.1,hc.2]),af (by simp only [zag,zay];omega),af (λ_=>⟨gS,fc⟩),zab hc];by_cases Gu:last=true/\r.last=true
   ·rw [zab (by simp [Gu.1,Gu.2]),zab Gu];exact .inl ⟨_,rfl,rfl⟩
   ·rw [zaa (by simpa using Gu),zaa Gu,af (by omega)];refine .inr ⟨_,rfl,by simp only [zai,zag,zay];omega,rfl,?_⟩;simp
  ·rw [zaa (by simpa using hc),zaa hc,af (by omega)];exact .inr ⟨_,rfl,by simp only;omega,rfl,rfl⟩
theorem NA (l:List aa) (at':List Int) (hl:l.length<=1000) (ha:at'.length<=1000):qE l at'=some (nI 0 at' l):=by
 unfold qE;refine (bp l (λs:List aa×List aa×Int×Int=>s.2.2.2) (λs t=>some (s.1++(nI s.2.2.2 (at'.drop s.2.2.1.toNat) t).1,s.2.1++(nI s.2.2.2 (at'.drop s.2.2.1.toNat) t).2))
  (λs t=>(0<=s.2.2.1/\s.2.2.1<=(at'.length:Int))/\(s.1.length:Int)<=s.2.2.2/\(s.2.1.length:Int)<=s.2.2.2) (by omega) ?_ ?_ rfl (by simp)).trans (by simp)
 ·rintro ⟨out,rest,k,i⟩ ⟨h0,h1⟩ hi;simp only at h0 h1 hi ⊢;unfold q8;rw [zaa (by simp only [zak];omega)];exact ⟨_,rfl,by cases at'.drop k.toNat <;> simp [nI]⟩
 ·rintro ⟨out,rest,k,i⟩ r t ⟨h0,h1,h2⟩ gS fc hn hlen;simp only at h0 h1 h2 gS fc hn hlen ⊢;unfold q8;rw [zab (by simpa using fc),af (λh=>by simp at h;omega),af ⟨gS,fc⟩,hn];by_cases hk:k<(at'.length:Int)
  ·have hd:=td (l:=at') (k:=k.toNat) (by omega);rw [hd];by_cases he:nth at' k.toNat=i
   ·rw [zab (by simp [he,hk]),af (by simp only [zag,zay];omega),af (by omega),af (by omega)];refine .inr ⟨_,rfl,⟨by simp only;omega,by simp only [zai,zag,zay];omega,by simp only;omega⟩,rfl,?_⟩;simp only
    conv=>rhs;unfold nI
    rw [zab he,show (k+1).toNat=k.toNat+1 from by omega];simp
   ·rw [zaa (by simp [he]),af ⟨gS,fc⟩,af (by simp only [zag,zay];omega),af (by omega)];refine .inr ⟨_,rfl,⟨by simp only;omega,by simp only;omega,by simp only [zai,zag,zay];omega⟩,rfl,?_⟩;simp only;rw [hd]
    conv=>rhs;unfold nI
    rw [zaa he];simp
  ·rw [zaa (by simp [hk]),af ⟨gS,fc⟩,af (by simp only [zag,zay];omega),af (by omega)];refine .inr ⟨_,rfl,⟨by simp only;omega,by simp only;omega,by simp only [zai,zag,zay];omega⟩,rfl,?_⟩;simp only;rw [zdb (by omega),qQ,qQ];simp
theorem ya (last:Bool) (x:aa):∀ (n i:Int) (l:List aa),(mY last x n i l).length<=l.length
 | _,_,[]=>zap _
 | n,i,r::l=>by
  have h1:=ya last x (n+1) (i+1) l;have h2:=ya last x n (i+1) l;unfold mY;split
  ·split <;> simp only [zag,zay] <;> omega
  ·simp only [zag];omega
theorem IX {last:Bool} {x:aa} {n:Int} {l:List aa} (h:∀ r,r∈l->Sm r):(∀ r,r∈(pd last x n l).1->Sm r)/\(∀ r,r∈(pd last x n l).2->Sm r):=by
 have hp:=xY last x n l;exact ⟨λr hr=>h r (hp.mem_iff.1 (zbm.2 (.inl hr))),λr hr=>h r (hp.mem_iff.1 (zbm.2 (.inr hr)))⟩
end Go.Proofs.YtimkfiaffohhkaaGreatDoor
