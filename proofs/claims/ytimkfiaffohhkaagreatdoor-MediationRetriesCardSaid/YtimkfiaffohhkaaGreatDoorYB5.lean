/- Our own texts of this seat. -/
import Derived.Test.YtimkfiaffohhkaaGreatDoorYB4
import Derived.Lib.ItoaLen
set_option linter.unusedSimpArgs false
set_option linter.unusedVariables false
set_option linter.unusedSectionVars false
set_option maxRecDepth 100000
set_option maxHeartbeats 1000000
namespace Go.Proofs.YtimkfiaffohhkaaGreatDoor
open Go.RowKit Go.Abs Go.Proofs.Tryz
theorem BR {bU:List aa} {bG:Int} {r:Bool} (H:lF bU bG=some r):aK prog 38 [.d (ag 12 aa.row bU),.tz 140 [.ref 0 0]] ⟨[.row 3 [.d (cI bG)]],[]⟩ (QE (.d (cB r)) ⟨[.row 3 [.d (cI bG)]],[]⟩):=by
 refine aK.jP ?_;refine aK.enter func38 rfl ntmps38 rfl λS hS=>?_
 unfold lF at H;obtain ⟨y1,cM,H⟩:=ae H;refine .F 8 rfl (.eP (en 30 rfl) rfl [0] [] (x:=.d (cI y1)) (st':=⟨[.row 3 [.d (cI bG)]],[]⟩) rfl (BQ cM) ⟨.aj _,.aj _,trivial⟩ rfl rfl rfl rfl rfl rfl (.E 3 rfl (.R func38 results38 rfl ?_)));cases H;exact ⟨[0],[],rfl,rfl,rfl,rfl,rfl,rfl,rfl,rfl,.aj _⟩
theorem yo {v0:List aa} {v1:Int} {r:(List aa)×(List aa)} (H:jf v0 v1=some r):aD prog 101 [ag 12 aa.row v0,cI v1] (·=.dN [ag 12 aa.row r.1,ag 12 aa.row r.2]):=by
 obtain ⟨i58,eb,fe,eV,o6⟩:=gw;refine aD.bc func101 rfl ntmps101 rfl λS hS=>?_
 unfold jf at H;obtain ⟨y1,cM,H⟩:=ae H;refine .A 19 [.r 0,.d (ag 12 aa.row y1)] rfl (av (en 13 rfl) rfl rfl (lG cM)) (.tok (i:=6) (e:=58) (sz:=12) rfl (.tok (i:=7) (e:=58) (sz:=12) rfl (.lp H (λ⟨p8,eD,aY⟩=>[(3,.ref 0 0),(6,.cE 12 (p8.map aa.row) 0),(7,.cE 12 (eD.map aa.row) 1),(8,.d (ag 12 aa.row aY))]) (λ⟨p8,eD,aY⟩=>⟨[.row 3 [.d (cI v1)]],[bj p8.length,bj eD.length]⟩) (.k4 rfl rfl rfl rfl (.nil)) rfl ?_)));rintro ⟨p8,eD,aY⟩ q1 H br
 dsimp only at H
 unfold lO at H;refine .A 7 [.i (aY.length:Int)] rfl (eW.n rfl rfl) (.ite H rfl (λH=>?_) (λH=>?_))
 ·obtain ⟨cD,H⟩:=ar H;obtain ⟨y2,fg,H⟩:=ae H;obtain ⟨y3,iP,H⟩:=ae H;obtain ⟨dd,ep,H⟩:=ck2 H;obtain ⟨y4,nC,H⟩:=ae H;refine .B 35 [.d (.ro (aa.row (nth aY (Int.toNat (0))))),.d (.agg (aI.row y2)),.d (.dN [cI y3.1,cI y3.2]),.d (ag 12 aa.row (aY.take y3.2.toNat)),.d (ag 12 aa.row (aY.drop y3.2.toNat)),.g (.tz 140 [.ref 0 0])] rfl ⟨aG.g (oH rfl),aG.g (HS (l:=aY) (row:=aa.row) underlying23 eb eV rfl rfl rfl ep),aG.g (xP (l:=aY) (row:=aa.row) underlying23 eb eV rfl rfl rfl dd),av (en 35 rfl) rfl rfl (AA iP),av (en 28 rfl) rfl rfl (fK fg),eW.ix rfl rfl rfl cD⟩ (.eP (en 86 rfl) rfl [0] [] (x:=.d (cB y4)) (st':=⟨[.row 3 [.d (cI v1)]],[bj p8.length,bj eD.length]⟩) rfl (BR nC) ⟨.aj _,.aj _,trivial⟩ rfl rfl rfl rfl rfl rfl (.E 1 rfl (.ite H rfl (λH=>?_) (λH=>?_))))
  ·obtain ⟨gA,H⟩:=ar H;refine .A 8 [.a 1 58 12 aa.row (eD++(aY.take y3.2.toNat))] rfl (eW.a rfl rfl rfl rfl gA) ?_;cases H;exact .z br rfl rfl
  ·obtain ⟨y5,uA,H⟩:=ae H;obtain ⟨y6,Bw,H⟩:=ae H;refine .A 13 [.d (ag 1 rI y5),.d (.dN [ag 12 aa.row y6.1,ag 12 aa.row y6.2])] rfl ⟨av (en 37 rfl) rfl rfl (ug Bw),av (en 163 rfl) rfl rfl (zy uA)⟩ (.iv (ι:=List aa×Int×Int×Int×List UInt8×List UInt8×Int×Int×Int×Int×Bool×Int×Bool) (λ⟨sf,gE,qy,qz,qA,qB,qC,jT,CB,CC,CD,nh,ni⟩=>[(3,.ref 0 0),(6,.cE 12 (sf.map aa.row) 0),(7,.cE 12 (eD.map aa.row) 1),(8,.d (ag 12 aa.row (aY.drop y3.2.toNat))),(13,.d (ag 12 aa.row y6.2))]) (λ⟨sf,gE,qy,qz,qA,qB,qC,jT,CB,CC,CD,nh,ni⟩=>⟨[.row 3 [.d (cI v1)],.row 58 [.d (cI gE),.d (cI qy),.d (cI qz),.d (cS qA),.d (cS qB),.d (cI qC),.d (cI jT),.d (cI CB),.d (cI CC),.d (cB CD),.d (cI nh),.d (cB ni)]],[bj sf.length,bj eD.length]⟩) (λs=>eF eD aY y3 y6 s.1 s.2.1 s.2.2.1 s.2.2.2.1 s.2.2.2.2.1 s.2.2.2.2.2.1 s.2.2.2.2.2.2.1 s.2.2.2.2.2.2.2.1 s.2.2.2.2.2.2.2.2.1 s.2.2.2.2.2.2.2.2.2.1 s.2.2.2.2.2.2.2.2.2.2.1 s.2.2.2.2.2.2.2.2.2.2.2.1 s.2.2.2.2.2.2.2.2.2.2.2.2=some q1) ?_ ?_)
   ·rintro ⟨sf,gE,qy,qz,qA,qB,qC,jT,CB,CC,CD,nh,ni⟩ H;replace H:eF eD aY y3 y6 sf gE qy qz qA qB qC jT CB CC CD nh ni=some q1:=H;unfold eF at H;refine .A 7 [.i (y6.2.length:Int)] rfl (eW.n rfl rfl) (.lp H (λ⟨oQ,xn⟩=>[(3,.ref 0 0),(6,.cE 12 (oQ.map aa.row) 0),(7,.cE 12 (eD.map aa.row) 1),(8,.d (ag 12 aa.row (aY.drop y3.2.toNat))),(61,.d (ag 12 aa.row y6.2)),(62,.d (cI (y6.2.length:Int))),(63,.d (cI xn))]) (λ⟨oQ,xn⟩=>⟨[.row 3 [.d (cI v1)],.row 58 [.d (cI gE),.d (cI qy),.d (cI qz),.d (cS qA),.d (cS qB),.d (cI qC),.d (cI jT),.d (cI CB),.d (cI CC),.d (cB CD),.d (cI nh),.d (cB ni)]],[bj oQ.length,bj eD.length]⟩) (.k7 rfl rfl rfl rfl rfl rfl rfl (.nil)) rfl ?_);rintro ⟨oQ,xn⟩ q2 H AE
    dsimp only at H
    unfold jm at H;refine .E 5 rfl (.ite H rfl (λH=>?_) (λH=>?_))
    ·obtain ⟨jI,H⟩:=ar H;obtain ⟨y7,Ng,H⟩:=ae H;obtain ⟨ot,uB,H⟩:=ck2 H;refine .A 23 [.d (.ro (aa.row (nth y6.2 xn.toNat))),.r 2,.d (.agg (aa.row y7)),.d (ag 12 aa.row ([y7]:List aa)),.a 0 58 12 aa.row (oQ++([y7]:List aa)),.i (xn+1)] rfl ⟨aF rfl rfl uB,eW.a rfl rfl rfl rfl ot,aV underlying23 eb eV fe rfl rfl rfl rfl rfl,av (en 31 rfl) rfl rfl (sR Ng),eW.ix rfl rfl rfl jI⟩ ?_;cases H;exact .t 2 2 AE rfl rfl rfl rfl rfl hS rfl
    ·refine .E 2 rfl ?_;cases H;cases AE;exact .t 1 2 br rfl rfl rfl rfl rfl hS rfl
   ·intro oq;obtain ⟨y8,O9,H⟩:=ae H;refine .A 15 [.d (.dN [.agg (aa.row y8.1),cB y8.2]),.r 1] rfl (av (en 34 rfl) rfl rfl (nO O9)) (.ite H rfl (λH=>?_) (λH=>?_))
    ·obtain ⟨zp,H⟩:=ar H;exact .A 7 [.d (ag 12 aa.row ([y8.1]:List aa)),.a 0 58 12 aa.row (p8++([y8.1]:List aa))] rfl ⟨eW.a rfl rfl rfl rfl zp,aV underlying23 eb eV fe rfl rfl rfl rfl rfl⟩ (.z (oq (p8++([y8.1]:List aa),y8.1.source,y8.1.aZ,y8.1.kind,y8.1.a,y8.1.b,y8.1.start,y8.1.cJ,y8.1.call,y8.1.part,y8.1.last,y8.1.cT,y8.1.bI) H) rfl rfl)
    ·exact .E 1 rfl (.z (oq (p8,y8.1.source,y8.1.aZ,y8.1.kind,y8.1.a,y8.1.b,y8.1.start,y8.1.cJ,y8.1.call,y8.1.part,y8.1.last,y8.1.cT,y8.1.bI) H) rfl rfl)
 ·refine .E 8 rfl (.R func101 results101 rfl ?_);cases H;cases br;exact .m rfl (.sY ⟨.cE _ _ _,.cE _ _ _,trivial⟩)
theorem C2 {bA:aH} {fp:Int} {r:aH×(List aa)} (H:mP bA fp=some r):aD prog 56 [.agg (aH.row bA),cI fp] (·=.dN [.agg (aH.row r.1),ag 12 aa.row r.2]):=by
 refine aD.bc func56 rfl ntmps56 rfl λS hS=>?_
 unfold mP at H;obtain ⟨y1,cM,H⟩:=ae H;obtain ⟨y2,fg,H⟩:=ae H;refine .A 38 [.r 0,.r 1,.d (.agg (aH.row y1)),.r 2,.d (.dN [ag 12 aa.row y2.1,ag 12 aa.row y2.2])] rfl ⟨av (en 164 rfl) rfl rfl (yo fg),av (en 46 rfl) rfl rfl (Bx cM)⟩ (.R func56 results56 rfl ?_);cases H;exact .m rfl (.j6 rfl)
theorem sE {aQ iZ gN:List aa} {bG:List Range} {ja:List Head} {bt:List ak} {bh:List Event} {aU:List aA} {jM Sl:Nat} {r:(List aA)×(List aa)} (H:eT aQ bG iZ ja bt bh aU gN=some r):aK prog 49 [.ref 0 0,.d (ag 12 aa.row aQ)] ⟨[.row 89 [.d (ag 3 Range.row bG),.d (ag 12 aa.row iZ),.d (ag 4 Head.row ja),.vc 0 jM,.vc 1 Sl,.d (ag 4 ak.row bt),.d (ag 7 Event.row bh)]],[aA.Ou jM aU,aa.o5 Sl gN]⟩ (QE (.d (.dN [])) ⟨[.row 89 [.d (ag 3 Range.row bG),.d (ag 12 aa.row iZ),.d (ag 4 Head.row ja),.vc 0 r.1.length,.vc 1 r.2.length,.d (ag 4 ak.row bt),.d (ag 7 Event.row bh)]],[aA.j7 r.1,aa.jq r.2]⟩):=by
 obtain ⟨i54,tc,uq,BG,II⟩:=Bh;obtain ⟨i58,eb,fe,eV,o6⟩:=gw;refine aK.jP ?_;refine aK.enter func49 rfl ntmps49 rfl λS hS=>?_
 unfold eT at H;refine .A 7 [.i (aQ.length:Int)] rfl (eW.n rfl rfl) ?_;obtain ⟨n1,H⟩:=eu H;refine .ER (l:=aU) (row:=aA.row) (tk:=0) (λz=>[(0,.ref 0 0),(8,.d (ag 12 aa.row aQ)),(9,.d (cI (aQ.length:Int))),(10,.d (cI 0))]) (λz=>⟨[.row 89 [.d (ag 3 Range.row bG),.d (ag 12 aa.row iZ),.d (ag 4 Head.row ja),.vc 0 z,.vc 1 Sl,.d (ag 4 ak.row bt),.d (ag 7 Event.row bh)]],[aA.Ou z aU,aa.o5 Sl gN]⟩) rfl (.k4 rfl rfl rfl rfl (.nil)) rfl (.ER (l:=gN) (row:=aa.row) (tk:=1) (λz=>[(0,.ref 0 0),(8,.d (ag 12 aa.row aQ)),(9,.d (cI (aQ.length:Int))),(10,.d (cI 0))]) (λz=>⟨[.row 89 [.d (ag 3 Range.row bG),.d (ag 12 aa.row iZ),.d (ag 4 Head.row ja),.vc 0 aU.length,.vc 1 z,.d (ag 4 ak.row bt),.d (ag 7 Event.row bh)]],[aA.j7 aU,aa.o5 z gN]⟩) rfl (.k4 rfl rfl rfl rfl (.nil)) rfl (.loop (ι:=Nat×(List aA×List aa×Int)) (λ⟨_,ba,de,bq⟩=>[(0,.ref 0 0),(8,.d (ag 12 aa.row aQ)),(9,.d (cI (aQ.length:Int))),(10,.d (cI bq))]) (λ⟨_,ba,de,bq⟩=>⟨[.row 89 [.d (ag 3 Range.row bG),.d (ag 12 aa.row iZ),.d (ag 4 Head.row ja),.vc 0 ba.length,.vc 1 de.length,.d (ag 4 ak.row bt),.d (ag 7 Event.row bh)]],[aA.j7 ba,aa.jq de]⟩) (λp=>iter (λs=>cX aQ bh s.1 s.2.1 s.2.2) p.1 p.2=some r) (·.1) (n1,(aU,gN,0)) H (.k4 rfl rfl rfl rfl (.nil)) rfl ?_))
 rintro ⟨m1,ba,de,bq⟩ HI CX;obtain ⟨n1,q1,rv,H,br⟩:=ew HI;clear HI;replace H:cX aQ bh ba de bq=some q1:=H;unfold cX at H;refine .E 5 rfl (.ite H rfl (λH=>?_) (λH=>?_))
 ·obtain ⟨cD,H⟩:=ar H;refine .A 11 [.d (.ro (aa.row (nth aQ bq.toNat))),.r 1] rfl (eW.ix rfl rfl rfl cD) ?_;obtain ⟨dd,H⟩:=ar H;obtain ⟨y1,cM,H⟩:=ae H;refine let z0:dL:=.row 89 [.d (ag 3 Range.row bG),.d (ag 12 aa.row iZ),.d (ag 4 Head.row ja),.vc 0 ba.length,.vc 1 de.length,.d (ag 4 ak.row bt),.d (ag 7 Event.row bh)];.uL 18 16 17 [⟨[z0,aa.o58 (nth aQ bq.toNat)],[aA.j7 ba,aa.jq de]⟩,⟨[z0,aa.o58 (nth aQ bq.toNat),.row 54 [.d (cI 0),.d (cI 0),.d (cI 0),.d (cI 0),.d (cS ([]:List UInt8)),.d (cS ([]:List UInt8)),.d (cI 0),.d (cI 0),.d (cI 0),.d (cB false),.d (cI 0),.d (cI 0)]],[aA.j7 ba,aa.jq de]⟩,⟨[z0,aa.o58 (nth aQ bq.toNat),aA.o54 y1.1],[aA.j7 ba,aa.jq de]⟩] lN (by kernel_rfl) (by decide) (by decide) (by kernel_rfl) rfl ?_;show kj _ _ _ _ _ _ _ _ _ _ (_::_) _ _;refine .g (x:=.ref 0 0) 0 1 ⟨aG.g (bT rfl),aG.g (bT rfl),trivial⟩ rfl (by kernel_rfl) rfl (.g (x:=.ref 0 0) 0 1 ⟨aG.g (dC rfl),aG.g (dC rfl),trivial⟩ rfl (by kernel_rfl) rfl (.g (x:=.ref 0 6) 0 1 ⟨aG.g (bl yI rfl),aG.g (bl yI rfl),trivial⟩ rfl (by kernel_rfl) rfl (.g (x:=.d (ag 7 Event.row bh)) 0 1 ⟨aG.g (bW Cp rfl rfl rfl),aG.g (bW Cp rfl rfl rfl),trivial⟩ rfl (by kernel_rfl) rfl (.g (x:=.d (.agg (aa.row (nth aQ bq.toNat)))) 0 1 ⟨aG.g (cd eB fN rfl rfl (zae rfl) rfl),aG.g (cd eB fN rfl rfl (zae rfl) rfl),trivial⟩ rfl (by kernel_rfl) rfl (.g (x:=.ref 0 0) 0 1 ⟨aG.g (bT rfl),aG.g (bT rfl),trivial⟩ rfl (by kernel_rfl) rfl (.g (x:=.ref 0 0) 0 1 ⟨aG.g (dC rfl),aG.g (dC rfl),trivial⟩ rfl (by kernel_rfl) rfl (.g (x:=.ref 0 0) 0 1 ⟨aG.g (bl oz rfl),aG.g (bl oz rfl),trivial⟩ rfl (by kernel_rfl) rfl (.g (x:=.ref 0 3) 0 1 ⟨aG.g (bl s6 rfl),aG.g (bl s6 rfl),trivial⟩ rfl (by kernel_rfl) rfl (.g (x:=.vc 0 ba.length) 0 1 ⟨aG.g (bW wP rfl rfl rfl),aG.g (bW wP rfl rfl rfl),trivial⟩ rfl (by kernel_rfl) rfl (.g (x:=.d (cI (ba.length:Int))) 0 1 ⟨aG.g (sa (l:=ba) (row:=aA.row) underlying27 rfl rfl),aG.g (sa (l:=ba) (row:=aA.row) underlying27 rfl rfl),trivial⟩ rfl (by kernel_rfl) rfl (.g (x:=.d (cI ((ba.length:Int)+1))) 0 1 ⟨aG.g (Ae rfl rfl dd.1 dd.2),aG.g (Ae rfl rfl dd.1 dd.2),trivial⟩ rfl (by kernel_rfl) rfl (.g (x:=.d (.dN [.agg (aA.row y1.1),cI y1.2])) 0 1 ⟨(av (en 68 rfl) rfl rfl (iO cM)),(av (en 68 rfl) rfl rfl (iO cM)),trivial⟩ rfl (by kernel_rfl) rfl (.g (x:=.d (.dN [.agg (aA.row y1.1),cI y1.2])) 0 1 ⟨aG.g (bT rfl),aG.g (bT rfl),trivial⟩ rfl (by kernel_rfl) rfl (.g (x:=.d (.agg (aA.row y1.1))) 0 1 ⟨aG.g (b7 rfl rfl),aG.g (b7 rfl rfl),trivial⟩ rfl (by kernel_rfl) rfl (.g (x:=.d (cI y1.2)) 0 2 ⟨aG.g (b7 rfl rfl),aG.g (b7 rfl rfl),aG.g (b7 rfl rfl),trivial⟩ rfl (by kernel_rfl) rfl (.v (x:=.ref 2 0) 0 (iy Nb rfl) rfl rfl rfl rfl (.u 1 (o8 rfl rfl rfl rfl (zae rfl) Hh) rfl rfl rfl rfl (.nil rfl ?_))))))))))))))))));show cm _ _ _ _ _ _ (_::_) _ _ _;refine .E 7 rfl (.ite H rfl (λH=>?_) (λH=>?_))
  ·obtain ⟨ep,H⟩:=ar H;refine let z0:dL:=.row 89 [.d (ag 3 Range.row bG),.d (ag 12 aa.row iZ),.d (ag 4 Head.row ja),.vc 0 ba.length,.vc 1 de.length,.d (ag 4 ak.row bt),.d (ag 7 Event.row bh)];.oy 9 8 [⟨[z0,aa.o58 (nth aQ bq.toNat),aA.o54 y1.1],[aA.j7 ba,aa.jq de]⟩,⟨[z0,aa.o58 (nth aQ bq.toNat),aA.o54 y1.1],[aA.j7 (ba++([y1.1]:List aA)),aa.jq de]⟩] lN (by kernel_rfl) (by decide) rfl ?_;show kj _ _ _ _ _ _ _ _ _ _ (_::_) _ _;refine .g (x:=.ref 0 0) 0 1 ⟨aG.g (bT rfl),aG.g (bT rfl),trivial⟩ rfl (by kernel_rfl) rfl (.g (x:=.ref 0 0) 0 0 ⟨aG.g (bT rfl),trivial⟩ rfl (by kernel_rfl) rfl (.g (x:=.ref 0 0) 0 0 ⟨aG.g (dC rfl),trivial⟩ rfl (by kernel_rfl) rfl (.g (x:=.ref 0 0) 0 0 ⟨aG.g (bl oz rfl),trivial⟩ rfl (by kernel_rfl) rfl (.g (x:=.ref 0 3) 0 0 ⟨aG.g (bl s6 rfl),trivial⟩ rfl (by kernel_rfl) rfl (.g (x:=.vc 0 ba.length) 0 0 ⟨aG.g (bW wP rfl rfl rfl),trivial⟩ rfl (by kernel_rfl) rfl (.g (x:=.d (.agg (aA.row y1.1))) 0 0 ⟨aG.g (cd L6 Hh rfl rfl (zae rfl) rfl),trivial⟩ rfl (by kernel_rfl) rfl (.g (x:=.d (ag 12 aA.row ([y1.1]:List aA))) 0 0 ⟨(aV underlying27 tc BG uq rfl rfl rfl rfl rfl),trivial⟩ rfl (by kernel_rfl) rfl ?_)))))));refine .v (x:=.vc 0 (ba++([y1.1]:List aA)).length) 0 (fC (l:=ba) (l':=([y1.1]:List aA)) (row:=aA.row) underlying27 tc uq BG rfl (by rw [II];decide) rfl rfl rfl rfl ep) rfl rfl rfl rfl ?_;refine .nil rfl ?_;show cm _ _ _ _ _ _ (_::_) _ _ _;obtain ⟨gA,H⟩:=ar H;refine .A 10 [.i (bq+1)] rfl (aF rfl rfl gA) ?_;cases H;exact .t 1 2 (CX (n1,(ba++([y1.1]:List aA),de,bq+1)) br rv) rfl rfl rfl rfl rfl hS rfl
  ·obtain ⟨jI,H⟩:=ar H;refine let z0:dL:=.row 89 [.d (ag 3 Range.row bG),.d (ag 12 aa.row iZ),.d (ag 4 Head.row ja),.vc 0 ba.length,.vc 1 de.length,.d (ag 4 ak.row bt),.d (ag 7 Event.row bh)];.oy 9 8 [⟨[z0,aa.o58 (nth aQ bq.toNat),aA.o54 y1.1],[aA.j7 ba,aa.jq de]⟩,⟨[z0,aa.o58 (nth aQ bq.toNat),aA.o54 y1.1],[aA.j7 ba,aa.jq (de++([nth aQ bq.toNat]:List aa))]⟩] lN (by kernel_rfl) (by decide) rfl ?_;show kj _ _ _ _ _ _ _ _ _ _ (_::_) _ _;refine .g (x:=.ref 0 0) 0 1 ⟨aG.g (bT rfl),aG.g (bT rfl),trivial⟩ rfl (by kernel_rfl) rfl (.g (x:=.ref 0 0) 0 0 ⟨aG.g (bT rfl),trivial⟩ rfl (by kernel_rfl) rfl (.g (x:=.ref 0 0) 0 0 ⟨aG.g (dC rfl),trivial⟩ rfl (by kernel_rfl) rfl (.g (x:=.ref 0 0) 0 0 ⟨aG.g (bl oz rfl),trivial⟩ rfl (by kernel_rfl) rfl (.g (x:=.ref 0 4) 0 0 ⟨aG.g (bl Ij rfl),trivial⟩ rfl (by kernel_rfl) rfl (.g (x:=.vc 1 de.length) 0 0 ⟨aG.g (bW L5 rfl rfl rfl),trivial⟩ rfl (by kernel_rfl) rfl (.g (x:=.d (.agg (aa.row (nth aQ bq.toNat)))) 0 0 ⟨aG.g (cd eB fN rfl rfl (zae rfl) rfl),trivial⟩ rfl (by kernel_rfl) rfl (.g (x:=.d (ag 12 aa.row ([nth aQ bq.toNat]:List aa))) 0 0 ⟨(aV underlying23 eb eV fe rfl rfl rfl rfl rfl),trivial⟩ rfl (by kernel_rfl) rfl ?_)))))));refine .v (x:=.vc 1 (de++([nth aQ bq.toNat]:List aa)).length) 0 (fC (l:=de) (l':=([nth aQ bq.toNat]:List aa)) (row:=aa.row) underlying23 eb fe eV rfl (by rw [o6];decide) rfl rfl rfl rfl jI) rfl rfl rfl rfl ?_;refine .nil rfl ?_;show cm _ _ _ _ _ _ (_::_) _ _ _;obtain ⟨ot,H⟩:=ar H;refine .A 10 [.i (bq+1)] rfl (aF rfl rfl ot) ?_;cases H;exact .t 1 2 (CX (n1,(ba,de++([nth aQ bq.toNat]:List aa),bq+1)) br rv) rfl rfl rfl rfl rfl hS rfl
 ·refine .E 1 rfl (.DI func49 results49 ?_);cases H;cases br;exact ⟨[0],[0,1],rfl,rfl,rfl,rfl,rfl,rfl,rfl,rfl,eG.sY (ds:=[]) trivial⟩
theorem zz {az:List Event} {iH r:ah} {jg:Int} (H:jH az iH jg=some r):aD prog 28 [ag 7 Event.row az,.agg (ah.row iH),cI jg] (·=.agg (ah.row r)):=by
 refine aD.bc func28 rfl ntmps28 rfl λS hS=>?_
 unfold jH at H;obtain ⟨y1,cM,H⟩:=ae H;refine .B 9 [.r 0,.r 1] rfl trivial (.eP (en 70 rfl) rfl [] [] (x:=.dN [.ref 2 0,.d (ag 12 aa.row y1.2.2.2.2.2.2)]) (st':=⟨[ah.o30 iH,.row 30 [.d aX,.d aX,.d aX,.d aX,.d aX,.d aX],.row 89 [.d (ag 3 Range.row y1.1),.d (ag 12 aa.row y1.2.1),.d (ag 4 Head.row y1.2.2.1),.vc 0 y1.2.2.2.1.length,.d aX,.d (ag 4 ak.row y1.2.2.2.2.1),.d (ag 7 Event.row y1.2.2.2.2.2.1)]],[aA.j7 y1.2.2.2.1]⟩) rfl (qe cM) ⟨.aj _,.aj _,trivial⟩ rfl rfl rfl rfl rfl rfl ?_);obtain ⟨y2,fg,H⟩:=ae H;refine .F 10 rfl (.eP (en 13 rfl) rfl [] [] (x:=.vc 1 y2.length) (st':=⟨[ah.o30 iH,.row 30 [.d aX,.d aX,.d aX,.d aX,.d aX,.d aX],.row 89 [.d (ag 3 Range.row y1.1),.d (ag 12 aa.row y1.2.1),.d (ag 4 Head.row y1.2.2.1),.vc 0 y1.2.2.2.1.length,.d aX,.d (ag 4 ak.row y1.2.2.2.2.1),.d (ag 7 Event.row y1.2.2.2.2.2.1)]],[aA.j7 y1.2.2.2.1,aa.jq y2]⟩) rfl (np fg) ⟨.aj _,trivial⟩ rfl rfl rfl rfl rfl rfl ?_);obtain ⟨y3,iP,H⟩:=ae H;obtain ⟨y4,nC,H⟩:=ae H;refine .B 31 [.d (.dN [.agg (aH.row y3.1),ag 12 aa.row y3.2]),.r 3] rfl (av (en 165 rfl) rfl rfl (C2 iP)) (.eP (en 71 rfl) rfl [2] [0,1] (x:=.d (.dN [])) (st':=⟨[ah.o30 iH,.row 30 [.d aX,.d aX,.d aX,.d aX,.d aX,.d aX],.row 89 [.d (ag 3 Range.row y3.1.seen),.d (ag 12 aa.row y3.1.open_),.d (ag 4 Head.row y3.1.aT),.vc 0 y4.1.length,.vc 1 y4.2.length,.d (ag 4 ak.row y1.2.2.2.2.1),.d (ag 7 Event.row y1.2.2.2.2.2.1)],aH.o26 y3.1],[aA.j7 y4.1,aa.jq y4.2]⟩) rfl (sE nC) ⟨.aj _,.aj _,trivial⟩ rfl rfl rfl rfl rfl rfl (.F 6 rfl (.freezeCell (l:=y4.1) (row:=aA.row) 2 3 rfl rfl rfl (.freezeCell (l:=y4.2) (row:=aa.row) 2 4 rfl rfl rfl (.E 3 rfl (.R func28 results28 rfl ?_))))));cases H;exact .m rfl (.aj _)
theorem GM {O7 r:aa} (H:uV O7=some r):aD prog 188 [.agg (aa.row O7)] (·=.agg (aa.row r)):=by
 refine aD.bc func188 rfl ntmps188 rfl λS hS=>?_
 unfold uV at H;refine .A 25 [.r 0,.r 1] rfl trivial (.R func188 results188 rfl ?_);cases H;exact .m rfl (.aj _)
theorem Kp {v0:List aa} {r:(List aa)} (H:tu v0=some r):aD prog 146 [ag 12 aa.row v0] (·=ag 12 aa.row r):=by
 obtain ⟨i3,sA,vn,w5,Ej⟩:=xW;obtain ⟨i58,eb,fe,eV,o6⟩:=gw;refine aD.bc func146 rfl ntmps146 rfl λS hS=>?_
 unfold tu at H;obtain ⟨cD,H⟩:=ar H;obtain ⟨y1,cM,H⟩:=ae H;refine .A 13 [.d (.ro (aa.row (nth v0 (Int.toNat (0))))),.d (ag 1 rI y1)] rfl ⟨av (en 103 rfl) rfl rfl (yn cM),eW.ix rfl rfl rfl cD⟩ (.iv (ι:=List Int) (λOw=>[(0,.d (ag 12 aa.row v0)),(3,.d (ag 1 rI Ow))]) (λOw=>⟨[],[]⟩) (λs=>lx v0 s=some r) ?_ ?_)
 ·rintro Ow H;replace H:lx v0 Ow=some r:=H;unfold lx at H;obtain ⟨y2,fg,H⟩:=ae H;refine .A 15 [.d (.dN [ag 12 aa.row y2.1,ag 12 aa.row y2.2])] rfl (av (en 102 rfl) rfl rfl (w9 fg)) (.tok (i:=10) (e:=58) (sz:=12) rfl (.iv (ι:=List aa×Int×Int×Int×List UInt8×List UInt8×Int×Int×Int×Int×Bool×Int×Bool) (λ⟨Ff,CE,CF,CG,CH,CI,CJ,pr,CK,CL,CM,yQ,yR⟩=>[(9,.d (ag 12 aa.row y2.2)),(10,.cE 12 (Ff.map aa.row) 0)]) (λ⟨Ff,CE,CF,CG,CH,CI,CJ,pr,CK,CL,CM,yQ,yR⟩=>⟨[.row 58 [.d (cI CE),.d (cI CF),.d (cI CG),.d (cS CH),.d (cS CI),.d (cI CJ),.d (cI pr),.d (cI CK),.d (cI CL),.d (cB CM),.d (cI yQ),.d (cB yR)]],[bj Ff.length]⟩) (λs=>lv y2 s.1 s.2.1 s.2.2.1 s.2.2.2.1 s.2.2.2.2.1 s.2.2.2.2.2.1 s.2.2.2.2.2.2.1 s.2.2.2.2.2.2.2.1 s.2.2.2.2.2.2.2.2.1 s.2.2.2.2.2.2.2.2.2.1 s.2.2.2.2.2.2.2.2.2.2.1 s.2.2.2.2.2.2.2.2.2.2.2.1 s.2.2.2.2.2.2.2.2.2.2.2.2=some r) ?_ ?_))
  ·rintro ⟨Ff,CE,CF,CG,CH,CI,CJ,pr,CK,CL,CM,yQ,yR⟩ H;replace H:lv y2 Ff CE CF CG CH CI CJ pr CK CL CM yQ yR=some r:=H;unfold lv at H;refine .E 6 rfl (.lp H (λ⟨bq,bB⟩=>[(9,.d (ag 12 aa.row y2.2)),(10,.cE 12 (bq.map aa.row) 0),(13,.d (cI bB))]) (λ⟨bq,bB⟩=>⟨[.row 58 [.d (cI CE),.d (cI CF),.d (cI CG),.d (cS CH),.d (cS CI),.d (cI CJ),.d (cI pr),.d (cI CK),.d (cI CL),.d (cB CM),.d (cI yQ),.d (cB yR)]],[bj bq.length]⟩) (.k3 rfl rfl rfl (.nil)) rfl ?_);rintro ⟨bq,bB⟩ q1 H br
   dsimp only at H
   unfold tb at H;refine .A 8 [.i (y2.2.length:Int)] rfl (eW.n rfl rfl) (.ite H rfl (λH=>?_) (λH=>?_))
   ·obtain ⟨dd,H⟩:=ar H;obtain ⟨y3,iP,H⟩:=ae H;obtain ⟨ep,gA,H⟩:=ck2 H;refine .A 20 [.d (.ro (aa.row (nth y2.2 bB.toNat))),.d (.agg (aa.row y3)),.d (ag 12 aa.row ([y3]:List aa)),.a 0 58 12 aa.row (bq++([y3]:List aa)),.i (bB+1)] rfl ⟨aF rfl rfl gA,eW.a rfl rfl rfl rfl ep,aV underlying23 eb eV fe rfl rfl rfl rfl rfl,av (en 166 rfl) rfl rfl (GM iP),eW.ix rfl rfl rfl dd⟩ ?_;cases H;exact .z br rfl rfl
   ·refine .E 6 rfl (.R func146 results146 rfl ?_);cases H;cases br;exact .m rfl (.cE _ _ _)
  ·intro Ek;obtain ⟨y4,nC,H⟩:=ae H;refine .A 15 [.d (.dN [.agg (aa.row y4.1),cB y4.2]),.r 0] rfl (av (en 100 rfl) rfl rfl (vB nC)) (.ite H rfl (λH=>?_) (λH=>?_))
   ·obtain ⟨jI,H⟩:=ar H;exact .A 7 [.d (ag 12 aa.row ([y4.1]:List aa)),.a 0 58 12 aa.row (([]:List aa)++([y4.1]:List aa))] rfl ⟨eW.a rfl rfl rfl rfl jI,aV underlying23 eb eV fe rfl rfl rfl rfl rfl⟩ (.z (Ek (([]:List aa)++([y4.1]:List aa),y4.1.source,y4.1.aZ,y4.1.kind,y4.1.a,y4.1.b,y4.1.start,y4.1.cJ,y4.1.call,y4.1.part,y4.1.last,y4.1.cT,y4.1.bI) H) rfl rfl)
   ·exact .E 1 rfl (.z (Ek (([]:List aa),y4.1.source,y4.1.aZ,y4.1.kind,y4.1.a,y4.1.b,y4.1.start,y4.1.cJ,y4.1.call,y4.1.part,y4.1.last,y4.1.cT,y4.1.bI) H) rfl rfl)
 ·intro oq;refine .E 1 rfl ?_;obtain ⟨n2,H⟩:=eu H;refine .loop (ι:=Nat×(List Int)) (λ⟨_,fH⟩=>[(0,.d (ag 12 aa.row v0)),(3,.d (ag 1 rI fH))]) (λ⟨_,fH⟩=>⟨[],[]⟩) (λp=>iter (λs=>pS v0 s) p.1 p.2=some r) (·.1) (n2,y1) H (.k2 rfl rfl (.nil)) rfl ?_
  rintro ⟨m1,fH⟩ HI CX;obtain ⟨n1,q1,rv,H,br⟩:=ew HI;clear HI;replace H:pS v0 fH=some q1:=H;unfold pS at H;refine .A 7 [.i (fH.length:Int)] rfl (nV.n rfl rfl) (.ite H rfl (λH=>?_) (λH=>?_))
  ·obtain ⟨y5,uA,H⟩:=ae H;obtain ⟨y6,Bw,H⟩:=ae H;refine .A 29 [.d (.dN [ag 12 aa.row y5.1,ag 12 aa.row y5.2]),.d (.dN [.agg (aa.row y6.1),cB y6.2]),.r 0] rfl ⟨av (en 100 rfl) rfl rfl (vB Bw),av (en 102 rfl) rfl rfl (w9 uA)⟩ (.ite H rfl (λH=>?_) (λH=>?_))
   ·refine .E 1 rfl ?_;obtain ⟨q0,H9,kN⟩:=bQ H;clear H;cases kN;cases br;have H:=H9;exact .t 0 0 (oq fH H) rfl rfl rfl rfl rfl hS rfl
   ·obtain ⟨ot,uB,H⟩:=ck2 H;refine .A 10 [.i (fH.length:Int),.i ((fH.length:Int) - 1),.d (ag 1 rI (fH.take ((fH.length:Int) - 1).toNat))] rfl ⟨aG.g (xP (l:=fH) (row:=rI) underlying121 sA w5 rfl rfl rfl uB),gB rfl rfl ot,nV.n rfl rfl⟩ ?_;cases H;exact .t 0 0 (CX (n1,(fH.take ((fH.length:Int) - 1).toNat)) br rv) rfl rfl rfl rfl rfl hS rfl
  ·refine .E 1 rfl ?_;obtain ⟨q0,H9,kN⟩:=bQ H;clear H;cases kN;cases br;have H:=H9;exact .z (oq fH H) rfl rfl
theorem FA {bN:List aa} {fp:Int} {r:(List aa)×(List aa)} (H:pT bN fp=some r):aD prog 102 [ag 12 aa.row bN,cI fp] (·=.dN [ag 12 aa.row r.1,ag 12 aa.row r.2]):=by
 obtain ⟨i58,eb,fe,eV,o6⟩:=gw;refine aD.bc func102 rfl ntmps102 rfl λS hS=>?_
 unfold pT at H;refine .E 16 rfl (.tok (i:=6) (e:=58) (sz:=12) rfl (.tok (i:=7) (e:=58) (sz:=12) rfl (.lp H (λ⟨b9,fJ,cA⟩=>[(0,.d (ag 12 aa.row bN)),(1,.d (cI fp)),(6,.cE 12 (b9.map aa.row) 0),(7,.cE 12 (fJ.map aa.row) 1),(8,.d (cI cA))]) (λ⟨b9,fJ,cA⟩=>⟨[],[bj b9.length,bj fJ.length]⟩) (.k5 rfl rfl rfl rfl rfl (.nil)) rfl ?_)));rintro ⟨b9,fJ,cA⟩ q1 H br
 dsimp only at H
 unfold sx at H;refine .A 8 [.i (bN.length:Int)] rfl (eW.n rfl rfl) (.ite H rfl (λH=>?_) (λH=>?_))
 ·refine .E 9 rfl (.bK (ι:=Int×Bool) (λ⟨rR,tv⟩=>[(0,.d (ag 12 aa.row bN)),(1,.d (cI fp)),(6,.cE 12 (b9.map aa.row) 0),(7,.cE 12 (fJ.map aa.row) 1),(8,.d (cI cA)),(9,.d (cI rR)),(10,.d (cB tv))]) (λ⟨rR,tv⟩=>⟨[],[bj b9.length,bj fJ.length]⟩) (λs=>hZ bN b9 fJ cA s.1 s.2=some q1) ?_ ?_)
  ·rintro ⟨rR,tv⟩ H;replace H:hZ bN b9 fJ cA rR tv=some q1:=H;unfold hZ at H;refine .E 5 rfl (.ite H rfl (λH=>?_) (λH=>?_))
   ·obtain ⟨cD,dd,H⟩:=ck2 H;refine .A 14 [.d (ag 12 aa.row ((bN.take rR.toNat).drop cA.toNat)),.a 1 58 12 aa.row (fJ++((bN.take rR.toNat).drop cA.toNat))] rfl ⟨eW.a rfl rfl rfl rfl dd,aG.g (MP (l:=bN) (row:=aa.row) underlying23 eb eV rfl rfl rfl rfl cD)⟩ ?_;cases H;exact .z br rfl rfl
   ·obtain ⟨ep,H⟩:=ar H;obtain ⟨y1,cM,H⟩:=ae H;obtain ⟨gA,H⟩:=ar H;refine .A 15 [.d (ag 12 aa.row ((bN.take rR.toNat).drop cA.toNat)),.d (ag 12 aa.row y1),.a 0 58 12 aa.row (b9++y1)] rfl ⟨eW.a rfl rfl rfl rfl gA,av (en 167 rfl) rfl rfl (Kp cM),aG.g (MP (l:=bN) (row:=aa.row) underlying23 eb eV rfl rfl rfl rfl ep)⟩ ?_;cases H;exact .z br rfl rfl
  ·intro oq fq;refine .lp H (λ⟨om,oX⟩=>[(0,.d (ag 12 aa.row bN)),(1,.d (cI fp)),(6,.cE 12 (b9.map aa.row) 0),(7,.cE 12 (fJ.map aa.row) 1),(8,.d (cI cA)),(9,.d (cI om)),(10,.d (cB oX))]) (λ⟨om,oX⟩=>⟨[],[bj b9.length,bj fJ.length]⟩) (.k7 rfl rfl rfl rfl rfl rfl rfl (.nil)) rfl ?_;rintro ⟨om,oX⟩ q2 H AE
   dsimp only at H
   unfold jt at H;obtain ⟨jI,ot,H⟩:=ck2 H;obtain ⟨y2,fg,H⟩:=ae H;refine .A 20 [.p 15,.i (bN.length:Int),.d (.ro (aa.row (nth bN om.toNat))),.d (.ro (aa.row (nth bN cA.toNat))),.b y2] rfl ⟨rfl,λhg=>av (en 98 rfl) rfl rfl (w8 (bd fg hg)),rfl,rfl,rfl,λhg=>eW.ix rfl rfl rfl (ot hg),rfl,rfl,rfl,λhg=>eW.ix rfl rfl rfl (jI hg),rfl,rfl,eW.n rfl rfl,(show cw _ _=true by kernel_rfl)⟩ (.ite H rfl (λH=>?_) (λH=>?_))
   ·obtain ⟨uB,zp,H⟩:=ck2 H;refine .A 22 [.d (.ro (aa.row (nth bN om.toNat))),.i (om+1)] rfl ⟨aF rfl rfl zp,rfl,rfl,rfl,rfl,rfl,λhg=>eW.ix rfl rfl rfl (uB hg),rfl,rfl⟩ ?_;cases H;exact .z AE rfl rfl
   ·refine .E 1 rfl ?_;obtain ⟨q0,H9,kN⟩:=bQ H;clear H;cases kN;cases AE;have H:=H9;exact .z (fq (om,oX) H) rfl rfl
 ·refine .E 8 rfl (.R func102 results102 rfl ?_);cases H;cases br;exact .m rfl (.sY ⟨.cE _ _ _,.cE _ _ _,trivial⟩)
theorem GN {bA:aH} {fp:Int} {r:aH×(List aa)} (H:rT bA fp=some r):aD prog 57 [.agg (aH.row bA),cI fp] (·=.dN [.agg (aH.row r.1),ag 12 aa.row r.2]):=by
 obtain ⟨i26,zn,zo,Mk,Ml⟩:=Dr;obtain ⟨i76,Fq,Ki,IE,QG⟩:=E5;obtain ⟨i106,qd,Hr,rW,Nh⟩:=sd;refine aD.bc func57 rfl ntmps57 rfl λS hS=>?_
 unfold rT at H;obtain ⟨y1,cM,H⟩:=ae H;refine .A 19 [.r 0,.r 1,.d (.dN [ag 12 aa.row y1.1,ag 12 aa.row y1.2])] rfl (av (en 168 rfl) rfl rfl (FA cM)) ?_;obtain ⟨cD,dd,H⟩:=ck2 H;refine .oy 12 11 [⟨[aH.o26 bA,.row 26 [.d aX,.d aX,.d aX]],[]⟩,⟨[aH.o26 bA,.row 26 [.d (ag 3 Range.row bA.seen),.d (ag 12 aa.row y1.2),.d (ag 4 Head.row bA.aT)]],[]⟩] lN (by kernel_rfl) (by decide) rfl ?_;show kj _ _ _ _ _ _ _ _ _ _ (_::_) _ _;refine .g (x:=.d (.e0 3)) 0 0 ⟨((rW▸dH underlying22 qd)),trivial⟩ rfl (by kernel_rfl) rfl (.g (x:=.ref 0 0) 0 0 ⟨aG.g (bl Sb rfl),trivial⟩ rfl (by kernel_rfl) rfl (.g (x:=.d (ag 3 Range.row bA.seen)) 0 0 ⟨aG.g (bW Vk rfl rfl rfl),trivial⟩ rfl (by kernel_rfl) rfl ?_));refine .g (x:=.d (ag 3 Range.row bA.seen)) 0 0 ⟨(Af (l':=bA.seen) (row:=Range.row) underlying22 qd Hr rW rfl (by rw [Nh];decide) rfl (.inl rfl) rfl rfl cD),trivial⟩ rfl (by kernel_rfl) rfl ?_;refine .g (x:=.d (ag 12 aa.row y1.2)) 0 0 ⟨aG.g (bT rfl),trivial⟩ rfl (by kernel_rfl) rfl (.g (x:=.d (.e0 4)) 0 0 ⟨((IE▸dH underlying24 Fq)),trivial⟩ rfl (by kernel_rfl) rfl (.g (x:=.ref 0 2) 0 0 ⟨aG.g (bl Sc rfl),trivial⟩ rfl (by kernel_rfl) rfl (.g (x:=.d (ag 4 Head.row bA.aT)) 0 0 ⟨aG.g (bW Vl rfl rfl rfl),trivial⟩ rfl (by kernel_rfl) rfl ?_)));refine .g (x:=.d (ag 4 Head.row bA.aT)) 0 0 ⟨(Af (l':=bA.aT) (row:=Head.row) underlying24 Fq Ki IE rfl (by rw [QG];decide) rfl (.inl rfl) rfl rfl dd),trivial⟩ rfl (by kernel_rfl) rfl ?_;refine .g (x:=.d (.agg (aH.row (⟨bA.seen,y1.2,bA.aT⟩:aH)))) 0 0 ⟨aG.g (bo Bl zn zo rfl rfl),trivial⟩ rfl (by kernel_rfl) rfl (.g (x:=.d (ag 12 aa.row y1.1)) 0 1 ⟨aG.g (bT rfl),aG.g (bT rfl),trivial⟩ rfl (by kernel_rfl) rfl (.u 0 (o8 rfl rfl rfl rfl (zae rfl) Tt) rfl rfl rfl rfl (.nil rfl ?_)));show cm _ _ _ _ _ _ (_::_) _ _ _;refine .E 2 rfl (.R func57 results57 rfl ?_);cases H;exact .m rfl (.j6 rfl)
theorem GO {az:List Event} {iH r:ah} {jg:Int} (H:rU az iH jg=some r):aD prog 29 [ag 7 Event.row az,.agg (ah.row iH),cI jg] (·=.agg (ah.row r)):=by
 refine aD.bc func29 rfl ntmps29 rfl λS hS=>?_
 unfold rU at H;obtain ⟨y1,cM,H⟩:=ae H;obtain ⟨y2,fg,H⟩:=ae H;refine .A 38 [.r 0,.r 1,.d (.dN [.agg (aH.row y1.1),ag 12 aa.row y1.2]),.r 2,.d (.agg (ah.row y2)),.r 3] rfl ⟨av (en 150 rfl) rfl rfl (zV fg),av (en 169 rfl) rfl rfl (GN cM)⟩ (.R func29 results29 rfl ?_);cases H;exact .m rfl (.aj _)
theorem vC {az:List Event} {iH:ah} {jg:Int} {r:Bool} (H:iC az iH jg=some r):aD prog 8 [ag 7 Event.row az,.agg (ah.row iH),cI jg] (·=cB r):=by
 refine aD.bc func8 rfl ntmps8 rfl λS hS=>?_
 unfold iC at H;obtain ⟨y1,cM,H⟩:=ae H;obtain ⟨y2,fg,H⟩:=ae H;refine .A 17 [.r 0,.b y1,.b y2] rfl ⟨rfl,rfl,λhg=>av (en 156 rfl) rfl rfl (AI (bd fg hg)),rfl,av (en 157 rfl) rfl rfl (Kn cM)⟩ (.ite H rfl (λH=>?_) (λH=>?_))
 ·obtain ⟨y3,iP,H⟩:=ae H;refine .A 5 [.b y3] rfl (av (en 116 rfl) rfl rfl (zT iP)) (.R func8 results8 rfl ?_);cases H;exact .m rfl (.aj _)
 ·obtain ⟨y4,nC,H⟩:=ae H;obtain ⟨y5,uA,H⟩:=ae H;obtain ⟨y6,Bw,H⟩:=ae H;obtain ⟨y7,Ng,H⟩:=ae H;obtain ⟨y8,O9,H⟩:=ae H;obtain ⟨y9,Sk,H⟩:=ae H;obtain ⟨Ql,QH,H⟩:=ae H;refine .A 27 [.p 22,.d (.agg (ah.row y4)),.d (.agg (ah.row y5)),.b y6,.d (.agg (ah.row y7)),.d (.agg (ah.row y8)),.b y9,.b Ql] rfl ⟨rfl,λhg=>av (en 116 rfl) rfl rfl (zT (bd QH hg)),rfl,λhg=>av (en 158 rfl) rfl rfl (BP (bd Sk hg)),rfl,rfl,λhg=>av (en 170 rfl) rfl rfl (GO (bd O9 hg)),rfl,rfl,rfl,λhg=>av (en 171 rfl) rfl rfl (zz (bd Ng hg)),rfl,rfl,rfl,av (en 158 rfl) rfl rfl (BP Bw),av (en 172 rfl) rfl rfl (GK uA),av (en 91 rfl) rfl rfl (nP nC),(show cw _ _=true by kernel_rfl)⟩ (.R func8 results8 rfl ?_);cases H;exact .m rfl (.aj _)
end Go.Proofs.YtimkfiaffohhkaaGreatDoor
namespace Go.Proofs.YtimkfiaffohhkaaGreatDoor
open Go.RowKit Go.Abs
theorem iq {α:Type} [Inhabited α] {b:Bool} {x:α}:ct b (some x)=some (if b=true then x else default):=by
 unfold ct;split <;> rfl
theorem ur {α R:Type} [Inhabited α] {step:Int->Option (Int ⊕ R)} (l:List α) (p:α->Bool) (fin bad:R) (hl:l.length<18446744073709551616)
  (h1:∀ i:Int,0<=i->i<(l.length:Int)->step i=some (if p (nth l i.toNat)=true then .inl (i+1) else .inr bad)) (h2:∀ i:Int,i=(l.length:Int)->step i=some (.inr fin)):loop step 0=some (if l.all p=true then fin else bad):=by
 have:=mU (step:=step) (λi:Int=>some (if (l.drop i.toNat).all p=true then fin else bad)) (λi=>0<=i/\i<=(l.length:Int)) (λi=>((l.length:Int) - i).toNat) (λi hI=>by
  by_cases hi:i<(l.length:Int)
  ·have hd:=A8 (l:=l) (k:=i.toNat) (by omega);rw [h1 i hI.1 hi];by_cases hp:p (nth l i.toNat)=true
   ·rw [zab hp];refine .inr ⟨i+1,rfl,⟨by omega,by omega⟩,by omega,?_⟩;rw [show (i+1).toNat=i.toNat+1 from by omega,hd];simp [hp]
   ·rw [zaa hp];refine .inl ⟨bad,rfl,?_⟩;rw [hd];simp [hp]
  ·have:i=(l.length:Int):=by omega
   refine .inl ⟨fin,h2 i this,?_⟩;rw [zdv (by omega)];simp) (s:=0) ⟨by omega,by omega⟩ (by omega)
 simpa using this
def FB (c:UInt8):Bool:=decide (48<=c) && decide (c<=57)
def oR (s:List UInt8):Bool:=s.all FB && decide (1<=s.length) && decide (s.length<=15)
theorem Ni (s:List UInt8) (hl:s.length<1000000000):kp s=some (oR s):=by
 unfold kp;rw [ur s FB (decide ((s.length:Int)>=1) && decide ((s.length:Int)<=15)) false (by omega) (λi h0 h1=>?_) (λi hi=>?_)]
 ·unfold oR;cases s.all FB <;> simp;rw [zbu];simp;omega
 ·unfold lS pj;rw [zab (by simpa using h1),af (by omega)];simp only [zac];rw [af (by omega)];unfold FB;simp only [ge_iff_le];cases decide (48<=nth s i.toNat) <;> cases decide (nth s i.toNat<=57) <;> rfl
 ·unfold lS jw;rw [zaa (by simp;omega)];rfl
theorem FC (s:List UInt8) (hl:s.length<1000000000):mw s=some (oR s):=by
 unfold mw;rw [ur s FB (decide ((s.length:Int)>=1) && decide ((s.length:Int)<=15)) false (by omega) (λi h0 h1=>?_) (λi hi=>?_)]
 ·unfold oR;cases s.all FB <;> simp;rw [zbu];simp;omega
 ·unfold pD;rw [zab (by simpa using h1),af (by omega),af (by omega),af (by omega)];unfold FB;have e1:decide (nth s i.toNat<48)=!decide (48<=nth s i.toNat):=by rw [←decide_not];simp
  have e2:decide (nth s i.toNat > 57)=!decide (nth s i.toNat<=57):=by rw [←decide_not];simp
  rw [e1,e2];cases decide (48<=nth s i.toNat) <;> cases decide (nth s i.toNat<=57) <;> rfl
 ·unfold pD mv;rw [zaa (by simp;omega)];rfl
def fM (r:aa):Int :=
 if ¬(1<=r.source/\r.source<=99/\1<=r.aZ/\r.aZ<=999999999) then 6
 else if ¬(1<=r.kind/\r.kind<=4) then 7
 else if oR r.a=false∨(oR r.b=false/\¬((r.kind=3∨r.kind=4)/\r.b=[])) then 12
 else if ¬(0<=r.start/\r.start<=12622780799) then 15
 else if ¬(0<=r.cJ/\r.cJ<=1099511627776)∨(r.kind=1/\r.cJ > 604800) then 6
 else if r.kind=1/\r.start+r.cJ > 12622780800 then 15
 else if ¬(0<=r.call/\r.call<=999999999/\0<=r.part/\r.part<=99) then 6
 else if ¬(r.part=0↔r.call=0)∨(r.last=true/\r.part=0) then 8
 else if ¬(0<=r.cT/\r.cT<=999) then 6
 else if r.bI=true/\r.cT=0 then 8
 else 0
theorem fL {α:Type} {b:Bool} {p:Prop} [Decidable p] {x y x' y':α} (h:b=true↔p) (hx:p->x=x') (hy:¬p->y=y'):(if b=true then x else y)=if p then x' else y':=by
 by_cases hp:p
 ·rw [zab hp,zab (h.2 hp),hx hp]
 ·rw [zaa hp,zaa (λhb=>hp (h.1 hb)),hy hp]
theorem Kr {α:Type} {p:Prop} [Decidable p] {x y:α}:(if p then some x else some y)=some (if p then x else y):=by split <;> rfl
theorem Nj (r:aa) (ha:r.a.length<1000000000) (hb:r.b.length<1000000000):lB r=some (fM r):=by
 have key:∀ m,(m=1099511627776/\r.kind≠1)∨(m=604800/\r.kind=1)->fz r m=some (fM r):=by
  intro m hm;unfold fz fM;simp only [dS,Ni _ ha,Ni _ hb,zac,iq];simp only [←Kr];refine fL (by simp;grind) (λ_=>rfl) (λh1=>?_);refine fL (by simp;grind) (λ_=>rfl) (λh2=>?_);refine fL (by simp;grind) (λ_=>rfl) (λh3=>?_);refine fL (by simp;grind) (λ_=>rfl) (λh4=>?_);refine fL (by simp;grind) (λ_=>rfl) (λh5=>?_);rw [af (by omega)];refine fL (by simp) (λ_=>rfl) (λh6=>?_);refine fL (by simp;grind) (λ_=>rfl) (λh7=>?_);refine fL (by simp;grind) (λ_=>rfl) (λh8=>?_);refine fL (by simp;grind) (λ_=>rfl) (λh9=>?_);refine fL (by simp) (λ_=>rfl) (λKs=>rfl)
 unfold lB;split
 ·rename_i h;exact key _ (.inr ⟨rfl,by simpa using h⟩)
 ·rename_i h;exact key _ (.inl ⟨rfl,by simpa using h⟩)
theorem QJ (r:aa) (ha:r.a.length<1000000000) (hb:r.b.length<1000000000):rF r=some (fM r):=by
 unfold rF fM;simp only [mu,FC _ ha,FC _ hb,zac,iq];simp only [←Kr];refine fL (by simp;grind) (λ_=>rfl) (λh1=>?_);refine fL (by simp;grind) (λ_=>rfl) (λh2=>?_);by_cases Zr:oR r.a=true
 ·rw [zaa (by simp [Zr])];refine fL (by simp [Zr];grind) (λ_=>rfl) (λh3=>?_);refine fL (by simp;grind) (λ_=>rfl) (λh4=>?_);refine fL (by simp;grind) (λ_=>rfl) (λh5=>?_);rw [af (by omega)];refine fL (by simp) (λ_=>rfl) (λh6=>?_);refine fL (by simp;grind) (λ_=>rfl) (λh7=>?_);refine fL (by simp;grind) (λ_=>rfl) (λh8=>?_);refine fL (by simp;grind) (λ_=>rfl) (λh9=>?_);refine fL (by simp) (λ_=>rfl) (λKs=>rfl)
 ·rw [zab (by simp [Zr]),zab (by simp [Zr])]
structure Good (r:aa):Prop where
 source:1<=r.source/\r.source<=99
 aZ:1<=r.aZ/\r.aZ<=999999999
 kind:1<=r.kind/\r.kind<=4
 a:oR r.a=true
 b:oR r.b=true∨(r.kind=3∨r.kind=4)/\r.b=[]
 start:0<=r.start/\r.start<=12622780799
 cJ:0<=r.cJ/\r.cJ<=1099511627776
 call:0<=r.call/\r.call<=999999999
 part:0<=r.part/\r.part<=99
 cT:0<=r.cT/\r.cT<=999
theorem nr {r:aa} (h:fM r=0):Good r:=by
 unfold fM at h;split at h;· cases h
 split at h;· cases h
 split at h;· cases h
 split at h;· cases h
 split at h;· cases h
 split at h;· cases h
 split at h;· cases h
 split at h;· cases h
 split at h;· cases h
 split at h;· cases h
 rename_i h1 h2 h3 h4 h5 h6 h7 h8 h9 Ks;refine ⟨by omega,by omega,by omega,?_,?_,by omega,by omega,by omega,by omega,by omega⟩
 ·cases hv:oR r.a with
  | true=>rfl
  | false=>exact absurd (.inl hv) h3
 ·cases hv:oR r.b with
  | true=>exact .inl rfl
  | false =>
   right;by_cases hh:(r.kind=3∨r.kind=4)/\r.b=[]
   ·exact hh
   ·exact absurd (.inr ⟨hv,hh⟩) h3
theorem qL {s:List UInt8} (h:oR s=true):s.length<=15:=by
 unfold oR at h;simp at h;exact h.2
def FD (r:aa):List (List UInt8):=[(([118,116,100,99]:List UInt8).take r.kind.toNat).drop (r.kind-1).toNat,Go.Lib.itoa r.source,Go.Lib.itoa r.aZ,r.a,if r.b=[] then [45] else r.b,Go.Lib.itoa r.start,Go.Lib.itoa r.cJ]
def DE (r:aa):List (List UInt8):=if r.part=0 then [] else [[112,97,114,116],Go.Lib.itoa r.call,Go.Lib.itoa r.part]++if r.last=true then [[108,97,115,116]] else []
def AJ (r:aa):List (List UInt8):=if r.cT=0 then [] else [if r.bI=true then [105,110] else [111,117,116],Go.Lib.itoa r.cT]
def uu (r:aa):List (List UInt8):=FD r++DE r++AJ r
def Kt (r:aa):List UInt8:=Go.Lib.join (uu r) [32]
theorem QK (sep:List UInt8) (xs:List (List UInt8)) (m:Nat) (h:∀ x,x∈xs->x.length<=m):(Go.Lib.join xs sep).length<=xs.length*(m+sep.length):=by
 cases xs with
 | nil=>simp [Go.Lib.join]
 | cons x r =>
  rw [Go.Lib.join_cons];have h1:∀ (r:List (List UInt8)),(∀ x,x∈r->x.length<=m)->(Go.Lib.joinTail sep r).length<=r.length*(m+sep.length):=by
   intro r
   induction r with
   | nil=>simp [Go.Lib.joinTail]
   | cons y r ih =>
    intro hr;have:=ih λz hz=>hr z (zal _ hz)
    have h2:=hr y zao;simp only [Go.Lib.joinTail,zap,zem,zai,zag,zcu] at *;omega
  have h3:=h1 r λz hz=>h z (zal _ hz)
  have h4:=h x zao;simp only [zai,zag,zcu] at *;omega
theorem xb {n:Int} (h0:0<=n) (h1:n<=9223372036854775807):(Go.Lib.itoa n).length<=21:=Go.Lib.itoa_length_le n (by omega) h1
theorem QL {r:aa} (g:Good r):(uu r).length<=13/\∀ x,x∈uu r->x.length<=21:=by
 have ha:=qL g.a;have hb:r.b.length<=15:=by
  rcases g.b with h|h
  ·exact qL h
  ·rw [h.2];simp
 obtain ⟨gs,ge,gk,_,_,gst,gu,gc,gp,gt⟩:=g;refine ⟨?_,λx hx=>?_⟩
 ·have h1:(DE r).length<=4:=by unfold DE;split;simp;split <;> simp
  have h2:(AJ r).length<=2:=by unfold AJ;split <;> simp
  have h3:(FD r).length=7:=rfl;simp only [uu,zai];omega
 ·unfold uu at hx;rcases zbi.1 hx with hx|hx
  ·rcases zbi.1 hx with hx|hx
   ·unfold FD at hx;simp only [zav,zeg,or_false] at hx;rcases hx with rfl|rfl|rfl|rfl|rfl|rfl|rfl
    ·simp;omega
    ·exact xb (by omega) (by omega)
    ·exact xb (by omega) (by omega)
    ·omega
    ·split
     ·simp
     ·omega
    ·exact xb (by omega) (by omega)
    ·exact xb (by omega) (by omega)
   ·unfold DE at hx;split at hx
    ·cases hx
    ·rcases zbi.1 hx with hx|hx
     ·simp only [zav,zeg,or_false] at hx;rcases hx with rfl|rfl|rfl
      ·simp
      ·exact xb (by omega) (by omega)
      ·exact xb (by omega) (by omega)
     ·split at hx
      ·simp only [zav,zeg,or_false] at hx;subst hx;simp
      ·cases hx
  ·unfold AJ at hx;split at hx
   ·cases hx
   ·simp only [zav,zeg,or_false] at hx;rcases hx with rfl|rfl
    ·split <;> simp
    ·exact xb (by omega) (by omega)
theorem AK {n:Int} (h0:0<=n) (h1:n<=9223372036854775807):vd n=some (Go.Lib.itoa n):=by
 unfold vd;rw [af (by omega)]
theorem Ku (r:aa) (h:fM r=0):fD r=some (Kt r,0):=by
 have g:=nr h;have ha:=qL g.a;have hb:r.b.length<=15:=by
  rcases g.b with h|h
  ·exact qL h
  ·rw [h.2];simp
 have QI:∀ ws,ws=uu r->fa ws=some (Kt r,0):=by
  rintro ws rfl;unfold fa Mc;obtain ⟨w1,w2⟩:=QL g;have:=QK [32] (uu r) 21 w2;simp only [zag,zbc] at this;have h3:(uu r).length*22<=13*22:=zcl _ w1;rw [af ⟨by omega,by omega⟩];rfl
 have Ek:∀ ws,ws=FD r++DE r->ws.length<=11->ez r ws=some (Kt r,0):=by
  intro ws hw hl;unfold ez;by_cases ht:r.cT=0
  ·rw [zaa (by simp [ht])];exact QI _ (by rw [hw,uu,AJ,zab ht];simp)
  ·rw [zab (by simp [ht])];unfold fW;rw [AK g.cT.1 (by have:=g.cT.2;omega)];simp only [zac];split
   ·rename_i hi;rw [af (by simp;omega)];exact QI _ (by rw [hw,uu,AJ,zaa ht,zab hi])
   ·rename_i hi;rw [af (by simp;omega)];exact QI _ (by rw [hw,uu,AJ,zaa ht,zaa hi])
 have oq:∀ b,b=(if r.b=[] then [45] else r.b)->fb r b=some (Kt r,0):=by
  rintro b rfl;unfold fb;have gk:=g.kind;rw [af (by omega),af (by simp;omega),AK (by have:=g.source;omega) (by have:=g.source;omega),AK (by have:=g.aZ;omega) (by have:=g.aZ;omega),AK g.start.1 (by have:=g.start;omega),AK g.cJ.1 (by have:=g.cJ;omega)];simp only [zac];by_cases hp:r.part=0
  ·rw [zaa (by simp [hp])];exact Ek _ (by rw [DE,zab hp];simp [FD]) (by simp)
  ·rw [zab (by simp [hp]),AK g.call.1 (by have:=g.call;omega),AK g.part.1 (by have:=g.part;omega)];simp only [zac];rw [af (by simp)];split
   ·rename_i hl;rw [af (by simp)];exact Ek _ (by rw [DE,zaa hp,zab hl];simp [FD]) (by simp)
   ·rename_i hl;exact Ek _ (by rw [DE,zaa hp,zaa hl];simp [FD]) (by simp)
 unfold fD;rw [Nj r (by omega) (by omega),h];simp only [zac];rw [zaa (by simp)];split
 ·rename_i U0;exact oq _ (by rw [zab (by simpa using U0)])
 ·rename_i U0;exact oq _ (by rw [zaa (by simpa using U0)])
theorem QM (r:aa) (ha:r.a.length<1000000000) (hb:r.b.length<1000000000):fD r=some (if fM r=0 then Kt r else [],fM r):=by
 by_cases h:fM r=0
 ·rw [Ku r h,zab h,h]
 ·unfold fD;rw [Nj r ha hb,zaa h];simp only [zac];rw [zab (by simpa using h)]
def df (a b:aa):Bool:=decide (a.source=b.source) && decide (a.call=b.call)
theorem qM {a b:aa}:df a b=true↔a.source=b.source/\a.call=b.call:=by simp [df]
theorem oS {a b:aa} (h:df a b=true):df b a=true:=by rw [qM] at *;exact ⟨h.1.symm,h.2.symm⟩
theorem BS {a b c:aa} (h:df a b=true) (h':df b c=true):df a c=true:=by rw [qM] at *;exact ⟨h.1.trans h'.1,h.2.trans h'.2⟩
theorem Kv {a x y:aa} (h:df x y=true):df a x=df a y:=by
 rw [qM] at h;simp [df,h.1,h.2]
def Lt (a b:aa):Prop:=a.source<b.source∨(a.source=b.source/\(a.call<b.call∨(a.call=b.call/\a.part<b.part)))
instance (a b:aa):Decidable (Lt a b):=by unfold Lt;infer_instance
def Le (a b:aa):Prop:=¬ Lt b a
instance (a b:aa):Decidable (Le a b):=by unfold Le;infer_instance
theorem Mp {a b:aa}:Le a b↔a.source<b.source∨(a.source=b.source/\(a.call<b.call∨(a.call=b.call/\a.part<=b.part))):=by
 unfold Le Lt;omega
theorem Kw {a b c:aa} (h:Le a b) (h':Le b c):Le a c:=by rw [Mp] at *;omega
theorem Kx {a b:aa} (h:Lt a b):Le a b:=by rw [Mp];unfold Lt at h;omega
theorem Sq {a b:aa} (h:Le a b) (hc:df a b=true):a.part<=b.part:=by rw [Mp] at h;rw [qM] at hc;omega
abbrev Sr (l:List aa):Prop:=l.Pairwise Le
def Ky:List aa->aa->List aa
 | [],p=>[p]
 | r::l,p=>if Lt p r then p::r::l else r::Ky l p
theorem Hu:∀ (l:List aa) (p:aa),(Ky l p).Perm (p::l)
 | [],p=>.refl _
 | r::l,p=>by
  unfold Ky;split
  ·exact .refl _
  ·exact ((Hu l p).cons r).trans (.swap _ _ _)
theorem Kz {l:List aa} {p x:aa}:x∈Ky l p↔x=p∨x∈l:=by rw [(Hu l p).mem_iff,zav]
theorem KA:∀ {l:List aa} {p:aa},Sr l->Sr (Ky l p)
 | [],p,_=>by simp [Ky,Sr]
 | r::l,p,h=>by
  unfold Ky;have h2:=zbn.1 h;split
  ·rename_i hp;refine zbn.2 ⟨λx hx=>?_,h⟩;rcases zav.1 hx with e|hx
   ·rw [e];exact Kx hp
   ·exact Kw (Kx hp) (h2.1 x hx)
  ·rename_i hp;refine zbn.2 ⟨λx hx=>?_,KA h2.2⟩;rcases Kz.1 hx with e|hx
   ·rw [e];exact hp
   ·exact h2.1 x hx
def F6 (last:Bool) (x:aa):Int->List aa->List aa×List aa
 | _,[]=>([],[])
 | n,r::l=>if df r x=true/\r.part=n then (if last=true/\r.last=true then ([r],l) else (r::(F6 last x (n+1) l).1,(F6 last x (n+1) l).2)) else ((F6 last x n l).1,r::(F6 last x n l).2)
theorem BT (last:Bool) (x:aa):∀ (n:Int) (l:List aa),((F6 last x n l).1++(F6 last x n l).2).Perm l
 | _,[]=>.refl _
 | n,r::l=>by
  unfold F6;split
  ·split
   ·exact .refl _
   ·exact (BT last x (n+1) l).cons r
  ·exact (List.perm_middle).trans ((BT last x n l).cons r)
theorem IT (last:Bool) {x y:aa} (h:df x y=true):∀ (n:Int) (l:List aa),F6 last x n l=F6 last y n l
 | _,[]=>rfl
 | n,r::l=>by
  unfold F6;rw [Kv (a:=r) h,IT last h (n+1) l,IT last h n l]
theorem KB (last:Bool) {x:aa}:∀ {n:Int} {l:List aa},(∀ r,r∈l->¬(df r x=true/\r.part=n))->F6 last x n l=([],l)
 | _,[],_=>rfl
 | n,r::l,h=>by
  unfold F6;rw [zaa (h r (zao ..)),KB last (λy hy=>h y (zal _ hy))]
def AL:List aa->Int
 | []=>0
 | r::l=>r.cJ+AL l
def GP (q:aa) (u:Int):aa:=⟨q.source,q.aZ,q.kind,q.a,q.b,q.start,u,0,0,false,q.cT,q.bI⟩
def sF (q:aa):aa:=GP q q.cJ
def Comm (p q:aa):Prop:=p.source=q.source/\p.call=q.call/\p.kind=q.kind/\p.a=q.a/\p.b=q.b/\p.cT=q.cT/\p.bI=q.bI
instance (a b:aa):Decidable (Comm a b):=by unfold Comm;infer_instance
def gH:List aa->Option aa
 | []=>none
 | q::l=>if ((q::l).all λp=>decide (p.part≠0/\fM p=0/\Comm p q))=true/\fM (GP q (AL (q::l)))=0 then some (GP q (AL (q::l))) else none
def Ss:Int->List aa->Bool
 | _,[]=>true
 | n,r::l=>decide (r.part=n) && decide (r.last=l.isEmpty) && Ss (n+1) l
def yp (l:List aa):Option aa:=if Ss 1 l=true then gH l else none
theorem Mq:yp []=none:=rfl
structure Zs (l:List aa):Prop where
 TK:Sr l
 ok:∀ r,r∈l->fM r=0/\r.part≠0
 nc:∀ x,yp (F6 true x 1 l).1=none
theorem Su {last:Bool} {x:aa} {n:Int} {l:List aa}:(F6 last x n l).1.length+(F6 last x n l).2.length=l.length:=by
 have:=(BT last x n l).length_eq
 rwa [zai] at this
theorem OI {l:List aa} {w:aa} (h:yp l=some w):l≠[]:=by intro e;rw [e,Mq] at h;cases h
abbrev KC (l:List aa):Prop:=l.Pairwise λa b=>¬(df a b=true/\a.part=b.part)
def QN (T:List aa) (x:aa) (n:Int):Option aa:=T.find? (λr=>df r x && decide (r.part=n))
theorem OJ {a b:aa} (h:¬(df a b=true/\a.part=b.part)):¬(df b a=true/\b.part=a.part):=λh'=>h ⟨oS h'.1,h'.2.symm⟩
theorem KC.perm {l l':List aa} (h:KC l) (p:l.Perm l'):KC l':=(p.pairwise_iff (λh=>OJ h)).1 h
theorem Nk {T:List aa} (h:KC T) {x:aa} {n:Int} {r:aa}:QN T x n=some r↔r∈T/\df r x=true/\r.part=n:=by
 constructor
 ·intro hf;have h1:=List.find?_some hf;simp at h1;exact ⟨List.mem_of_find?_eq_some hf,h1⟩
 ·intro ⟨hm,hc,hn⟩
  induction T with
  | nil=>cases hm
  | cons y T ih =>
   have h2:=zbn.1 h;unfold QN;rcases zav.1 hm with e|hm
   ·rw [←e,List.find?_cons_of_pos (by simp [hc,hn])]
   ·rw [List.find?_cons_of_neg (by
     intro hy;simp at hy;exact h2.1 r hm ⟨BS hy.1 (oS hc),by omega⟩)]
    exact ih h2.2 hm
theorem QO {T T':List aa} (h:KC T) (p:T.Perm T') (x:aa) (n:Int):QN T x n=QN T' x n:=by
 apply Option.ext;intro r;rw [Nk h,Nk (h.perm p),p.mem_iff]
def Wc (T:List aa) (x:aa):Nat->Int->List aa
 | 0,_=>[]
 | m+1,n=>match QN T x n with
  | none=>[]
  | some r=>r::if r.last=true then [] else Wc T x m (n+1)
theorem wg {T T':List aa} {x y:aa} (h:∀ n,QN T x n=QN T' y n):∀ (m:Nat) (n:Int),Wc T x m n=Wc T' y m n
 | 0,_=>rfl
 | m+1,n=>by
  unfold Wc;rw [h n,wg h m (n+1)]
theorem El {T:List aa} {x:aa}:∀ (m:Nat) (n:Int) (r:aa),r∈Wc T x m n->r∈T/\df r x=true
 | 0,_,r,h=>by cases h
 | m+1,n,r,h=>by
  unfold Wc at h;split at h
  ·cases h
  ·rename_i y hy;have h1:=List.find?_some hy;simp at h1;rcases zav.1 h with e|h
   ·rw [e];exact ⟨List.mem_of_find?_eq_some hy,h1.1⟩
   ·split at h
    ·cases h
    ·exact El m (n+1) r h
abbrev KD (T:List aa) (x:aa):List aa:=Wc T x 99 1
theorem BU {T T':List aa} (h:KC T) (p:T.Perm T') (x:aa):KD T x=KD T' x:=wg (QO h p x) _ _
theorem Sv {T:List aa} {x y:aa} (h:df x y=true):KD T x=KD T y:=wg (λn=>by
 unfold QN;congr 1;funext r;rw [Kv (a:=r) h]) _ _
theorem zW {C U:List aa} {x:aa} (h:∀ r,r∈C->df r x=false) (n:Int):QN (C++U) x n=QN U x n:=by
 unfold QN;rw [List.find?_append,List.find?_eq_none.2 (λr hr=>by simp [h r hr])];rfl
def Nl (T:List aa) (w:aa) (U:List aa):Prop:=KC T/\∃ x,yp (KD T x)=some w/\T.Perm (KD T x++U)
theorem Nl.perm {T T' U:List aa} {w:aa} (h:Nl T w U) (p:T.Perm T'):Nl T' w U:=by
 obtain ⟨h1,x,h2,h3⟩:=h;refine ⟨h1.perm p,x,?_,?_⟩
 ·rw [←BU h1 p];exact h2
 ·rw [←BU h1 p];exact p.symm.trans h3
theorem Nl.len {T U:List aa} {w:aa} (h:Nl T w U):U.length<T.length:=by
 obtain ⟨h1,x,h2,h3⟩:=h;have:=h3.length_eq;have h4:0<(KD T x).length:=zdt.2 (OI h2);rw [zai] at this;omega
theorem Nl.YT {T U:List aa} {w:aa} (h:Nl T w U):KC U:=by
 obtain ⟨h1,x,h2,h3⟩:=h;exact (List.pairwise_append.1 (h1.perm h3)).2.1
theorem filter_none {p:aa->Bool} {l:List aa} (h:∀ r,r∈l->p r=false):l.filter p=[]:=zde.2 (λr hr=>by simp [h r hr])
theorem filter_all {p:aa->Bool} {l:List aa} (h:∀ r,r∈l->p r=true):l.filter p=l:=zdg.2 h
theorem IU (p:aa->Bool) (l:List aa):l.Perm (l.filter p++l.filter (λr=>!p r)):=(List.filter_append_perm p l).symm
theorem Nl.Sw {T U1 U2:List aa} {w1 w2:aa} (h1:Nl T w1 U1) (h2:Nl T w2 U2):(w1=w2/\U1.Perm U2)∨∃ V,Nl U1 w2 V/\Nl U2 w1 V:=by
 have d1:=h1.YT;have d2:=h2.YT;obtain ⟨hd,x,hx,px⟩:=h1;obtain ⟨_,y,hy,py⟩:=h2;by_cases hc:df x y=true
 ·left;rw [Sv hc] at hx px;rw [hx] at hy;exact ⟨by injection hy,(List.perm_append_left_iff _).1 (px.symm.trans py)⟩
 ·right;have nx:∀ r,r∈KD T x->df r y=false:=λr hr=>by
   cases hry:df r y with
   | false=>rfl
   | true=>exact absurd (BS (oS (El _ _ r hr).2) hry) hc
  have ny:∀ r,r∈KD T y->df r x=false:=λr hr=>by
   cases hrx:df r x with
   | false=>rfl
   | true=>exact absurd (oS (BS (oS (El _ _ r hr).2) hrx)) hc
  have e1:KD U1 y=KD T y:=by
   rw [BU hd px y];exact (wg (zW nx) _ _).symm
  have e2:KD U2 x=KD T x:=by
   rw [BU hd py x];exact (wg (zW ny) _ _).symm
  have fy:=px.symm.trans py;have q1:=fy.filter (λr=>df r y);rw [zdi,zdi,filter_none nx,filter_all (λr hr=>(El _ _ r hr).2),zbz] at q1;have p1:U1.Perm (KD T y++(U2.filter (λr=>df r y)++U1.filter (λr=>!df r y))):=by
   refine (IU (λr=>df r y) U1).trans ?_;rw [←zax];exact q1.append_right _
  refine ⟨U2.filter (λr=>df r y)++U1.filter (λr=>!df r y),⟨d1,y,by rw [e1];exact hy,by rw [e1];exact p1⟩,⟨d2,x,by rw [e2];exact hx,?_⟩⟩;rw [e2];have k1:T.Perm (KD T y++(KD T x++(U2.filter (λr=>df r y)++U1.filter (λr=>!df r y)))):=by
   refine px.trans ((p1.append_left _).trans ?_);rw [←zax,←zax (KD T y)];exact zfn.append_right _
  exact (List.perm_append_left_iff _).1 (py.symm.trans k1)
inductive zA:List aa->List aa->List aa->Prop where
 | nil {T U:List aa}:T.Perm U->zA T [] U
 | cons {T U V:List aa} {w:aa} {o:List aa}:Nl T w U->zA U o V->zA T (w::o) V
def NF (T:List aa):Prop:=∀ w U,¬ Nl T w U
theorem zA.perm {T T' o U:List aa} (h:zA T o U) (p:T.Perm T'):zA T' o U:=by
 cases h with
 | nil q=>exact .nil (p.symm.trans q)
 | cons r s=>exact .cons (r.perm p) s
theorem zA.ex:∀ (n:Nat) (T:List aa),T.length<=n->∃ o U,zA T o U/\NF U
 | n,T,hn=>by
  by_cases h:NF T
  ·exact ⟨[],T,.nil (.refl _),h⟩
  ·simp only [NF,Classical.not_forall,Classical.not_not] at h;obtain ⟨w,U,h⟩:=h;have hl:=h.len
   match n,hn with
   | 0,hn=>omega
   | n+1,hn =>
    obtain ⟨o,V,h1,h2⟩:=zA.ex n U (by omega);exact ⟨w::o,V,.cons h h1,h2⟩
theorem zA.uniq:∀ (n:Nat) {T o1 o2 U1 U2:List aa},T.length<=n->zA T o1 U1->NF U1->zA T o2 U2->NF U2->o1.Perm o2/\U1.Perm U2
 | n,T,o1,o2,U1,U2,hn,h1,n1,h2,n2=>by
  cases h1 with
  | nil p1 =>
   cases h2 with
   | nil p2=>exact ⟨.refl _,p1.symm.trans p2⟩
   | cons r s=>exact absurd (r.perm p1) (n1 _ _)
  | cons r1 s1 =>
   rename_i V1 w1 q1;cases h2 with
   | nil p2=>exact absurd (r1.perm p2) (n2 _ _)
   | cons r2 s2 =>
    rename_i V2 w2 q2;have l1:=r1.len;have l2:=r2.len
    match n,hn with
    | 0,hn=>omega
    | n+1,hn =>
     rcases r1.Sw r2 with ⟨e,p⟩|⟨V,k1,k2⟩
     ·obtain ⟨a,b⟩:=zA.uniq n (by omega) s1 n1 (s2.perm p.symm) n2;rw [e];exact ⟨a.cons _,b⟩
     ·obtain ⟨o3,U3,s3,n3⟩:=zA.ex V.length V (zam _);obtain ⟨a1,b1⟩:=zA.uniq n (by omega) s1 n1 (.cons k1 s3) n3;obtain ⟨a2,b2⟩:=zA.uniq n (by omega) s2 n2 (.cons k2 s3) n3;exact ⟨(a1.cons _).trans ((List.Perm.swap _ _ _).trans (a2.cons _).symm),b1.trans b2.symm⟩
def dZ:Int->List Int->List aa->List aa×List aa
 | _,_,[]=>([],[])
 | _,[],r::l=>([],r::l)
 | i,a::at',r::l=>if a=i then (r::(dZ (i+1) at' l).1,(dZ (i+1) at' l).2) else ((dZ (i+1) (a::at') l).1,r::(dZ (i+1) (a::at') l).2)
def gi (last:Bool) (x:aa):Int->Int->List aa->List Int
 | _,_,[]=>[]
 | n,i,r::l=>if df r x=true/\r.part=n then (if last=true/\r.last=true then [i] else i::gi last x (n+1) (i+1) l) else gi last x n (i+1) l
theorem tw (i:Int) (l:List aa):dZ i [] l=([],l):=by cases l <;> rfl
theorem yT (last:Bool) (x:aa):∀ (n i:Int) (l:List aa),∀ a,a∈gi last x n i l->i<=a/\a<i+l.length
 | _,_,[]=>by simp [gi]
 | n,i,r::l=>by
  intro a h;unfold gi at h;simp only [zag];split at h
  ·split at h
   ·simp at h;omega
   ·rcases zav.1 h with e|h
    ·omega
    ·have:=yT last x (n+1) (i+1) l a h;omega
  ·have:=yT last x n (i+1) l a h;omega
theorem BV (last:Bool) (x:aa):∀ (n i:Int) (l:List aa),(gi last x n i l).Pairwise (· < ·)
 | _,_,[]=>.nil
 | n,i,r::l=>by
  unfold gi;split
  ·split
   ·simp
   ·refine zbn.2 ⟨λa ha=>?_,BV last x (n+1) (i+1) l⟩;have:=yT last x (n+1) (i+1) l a ha;omega
  ·exact BV last x n (i+1) l
theorem Mr {i:Int} {at':List Int} {r:aa} {l:List aa} (h:∀ a,a∈at'->i+1<=a):dZ i at' (r::l)=((dZ (i+1) at' l).1,r::(dZ (i+1) at' l).2):=by
 cases at' with
 | nil=>rw [tw,tw]
 | cons a at' =>
  conv=>lhs;unfold dZ
  rw [zaa (by have:=h a (zao ..);omega)]
theorem AM (last:Bool) (x:aa):∀ (n i:Int) (l:List aa),dZ i (gi last x n i l) l=F6 last x n l
 | _,_,[]=>by simp [gi,dZ,F6]
 | n,i,r::l=>by
  unfold gi F6;split
  ·split
   ·unfold dZ;rw [zab rfl,tw]
   ·unfold dZ;rw [zab rfl,AM last x (n+1) (i+1) l]
  ·rw [Mr (λa ha=>(yT _ _ _ _ _ a ha).1),AM last x n (i+1) l]
theorem qN:∀ (i:Int) (at':List Int) (l:List aa),((dZ i at' l).1++(dZ i at' l).2).Perm l
 | _,_,[]=>by simp [dZ]
 | _,[],r::l=>.refl _
 | i,a::at',r::l=>by
  unfold dZ;split
  ·exact (qN (i+1) at' l).cons r
  ·exact (List.perm_middle).trans ((qN (i+1) (a::at') l).cons r)
def qO (l:List aa) (at':List Int):Nat->List Int
 | 0=>[]
 | m+1=>if (gH (dZ 0 (at'.take (m+1)) l).1).isSome=true then at'.take (m+1) else qO l at' m
def BW:List aa->List aa
 | []=>[]
 | x::l=>(gH (dZ 0 (qO (x::l) (gi false x 1 0 (x::l)) (gi false x 1 0 (x::l)).length) (x::l)).1).toList++(dZ 0 (qO (x::l) (gi false x 1 0 (x::l)) (gi false x 1 0 (x::l)).length) (x::l)).2.map sF
def dJ (x:aa) (l:List aa):List aa:=l.takeWhile (λr=>df r x)
def jn (x:aa) (l:List aa):List aa:=l.dropWhile (λr=>df r x)
def jJ (b:Int):Nat->List aa->List aa×List aa
 | 0,_=>([],[])
 | _+1,[]=>([],[])
 | m+1,x::l=>if (dJ x (x::l)).any (λr=>decide (b<=r.start))=true then ((jJ b m (jn x (x::l))).1,dJ x (x::l)++(jJ b m (jn x (x::l))).2)
  else (BW (dJ x (x::l))++(jJ b m (jn x (x::l))).1,(jJ b m (jn x (x::l))).2)
theorem AN (x:aa):df x x=true:=by simp [df]
theorem pZ (x:aa) (l:List aa):dJ x l++jn x l=l:=List.takeWhile_append_dropWhile
theorem QP {x:aa} {l:List aa}:∀ r,r∈dJ x l->df r x=true:=λr h=>by
 have:=List.all_takeWhile (p:=λr=>df r x) (l:=l);rw [zbb] at this;exact this r h
theorem FE (x:aa) (l:List aa):(jn x (x::l)).length<=l.length:=by
 unfold jn;rw [List.dropWhile_cons_of_pos (p:=λr=>df r x) (AN x)];exact List.Sublist.length_le (List.dropWhile_sublist _)
theorem FF {S R α:Type} [Inhabited α] {step:S->Option (S ⊕ R)} (l:List α) (idx:S->Int) (F:S->List α->Option R) (I:S->List α->Prop) (hl:l.length<1000000000)
  (h0:∀ s,I s []->idx s=(l.length:Int)->∃ r,step s=some (.inr r)/\F s []=some r)
  (h1:∀ s a t,I s (a::t)->0<=idx s->idx s<(l.length:Int)->nth l (idx s).toNat=a->idx s+1+(t.length:Int)=(l.length:Int) ->
   (∃ r,step s=some (.inr r)/\F s (a::t)=some r)∨∃ s',step s=some (.inl s')/\I s' t/\idx s'=idx s+1/\F s' t=F s (a::t))
  {s:S} (hi:0<=idx s/\idx s<=(l.length:Int)) (hI:I s (l.drop (idx s).toNat)):loop step s=F s (l.drop (idx s).toNat):=by
 refine mU (step:=step) (λs=>F s (l.drop (idx s).toNat)) (λs=>(0<=idx s/\idx s<=(l.length:Int))/\I s (l.drop (idx s).toNat)) (λs=>((l.length:Int) - idx s).toNat) (λs hs=>?_) ⟨hi,hI⟩ (by omega);obtain ⟨⟨b0,b1⟩,hs⟩:=hs;by_cases cZ:idx s<(l.length:Int)
 ·have hd:=A8 (l:=l) (k:=(idx s).toNat) (by omega);rw [hd] at hs ⊢;rcases h1 s _ _ hs b0 cZ rfl (by rw [zbh];omega) with ⟨r,e1,e2⟩|⟨s',e1,e2,e3,e4⟩
  ·exact .inl ⟨r,e1,e2⟩
  ·refine .inr ⟨s',e1,⟨by omega,?_⟩,by omega,?_⟩
   ·rw [e3,show (idx s+1).toNat=(idx s).toNat+1 from by omega];exact e2
   ·rw [e3,show (idx s+1).toNat=(idx s).toNat+1 from by omega];exact e4
 ·have he:idx s=(l.length:Int):=by omega
  rw [zdv (by omega)] at hs ⊢;exact .inl (h0 s hs he)
theorem bC {S R α:Type} [Inhabited α] {step:S->Option (S ⊕ R)} (l:List α) (idx:S->Int) (F:S->List α->Option R) (I:S->List α->Prop) (hl:l.length<1000000000)
  (h0:∀ s,I s []->idx s=(l.length:Int)->∃ r,step s=some (.inr r)/\F s []=some r)
  (h1:∀ s a t,I s (a::t)->0<=idx s->idx s<(l.length:Int)->nth l (idx s).toNat=a->idx s+1+(t.length:Int)=(l.length:Int) ->
   (∃ r,step s=some (.inr r)/\F s (a::t)=some r)∨∃ s',step s=some (.inl s')/\I s' t/\idx s'=idx s+1/\F s' t=F s (a::t))
  {s:S} (hi:idx s=0) (hI:I s l):loop step s=F s l:=by
 have:=FF l idx F I hl h0 h1 (s:=s) ⟨by omega,by omega⟩ (by rw [hi];exact hI);rw [hi] at this;exact this
def Sm (r:aa):Prop:=r.a.length<=200/\r.b.length<=200
instance (r:aa):Decidable (Sm r):=by unfold Sm;infer_instance
theorem IV (r:aa) (h:Sm r):dU r=some (fM r):=by
 unfold dU;unfold Sm at h;rw [QM r (by omega) (by omega)];rfl
theorem yq (r:aa) (h:Sm r):gO r=some (fM r):=by
 unfold gO;unfold Sm at h;rw [QJ r (by omega) (by omega)];rfl
theorem IW {r:aa} (h:fM r=0):Sm r:=by
 have g:=nr h;have ha:=qL g.a;unfold Sm;rcases g.b with h|h
 ·have:=qL h;omega
 ·rw [h.2];simp;omega
theorem aa.xc (r:aa):eI r.bR r.bR=true:=by simp [aa.bR,eI,LJ]
theorem TM {q:aa} (h:Sm q) (u:Int):Sm (GP q u):=h
def W8:aa×Bool:=((⟨0,0,0,([]:List UInt8),([]:List UInt8),0,0,0,0,false,0,false⟩:aa),false)
def yr:Option aa->aa×Bool
 | none=>W8
 | some w=>(w,true)
def TN (q p:aa):Prop:=p.part≠0/\fM p=0/\Comm p q
instance (q p:aa):Decidable (TN q p):=by unfold TN;infer_instance
theorem KE {q:aa} {u v:Int} (h:fM (GP q v)=0) (h0:0<=u) (h1:u<=v):fM (GP q u)=0:=by
 have g:=nr h;unfold fM GP at h ⊢;simp only at h ⊢;split at h;· cases h
 split at h;· cases h
 split at h;· cases h
 split at h;· cases h
 split at h;· cases h
 split at h;· cases h
 rename_i q1 q2 q3 q4 q5 q6;rw [zaa q1,zaa q2,zaa q3,zaa q4,zaa (by omega),zaa (by omega)];exact h
theorem KF {q:aa}:∀ {t:List aa},(∀ p,p∈t->TN q p)->0<=AL t
 | [],_=>by simp [AL]
 | r::t,h=>by
  have:=KF (λp hp=>h p (zal _ hp));have:=(nr (h r (zao ..)).2.1).cJ;simp only [AL];omega
def OK (q:aa) (u:Int) (t:List aa):Option aa:=if (t.all λp=>decide (TN q p))=true/\fM (GP q (u+AL t))=0 then some (GP q (u+AL t)) else none
theorem FG (q:aa) (l:List aa):gH (q::l)=OK q 0 (q::l):=by
 unfold gH OK;rw [Int.zero_add];rfl
theorem BX {q r:aa} {u:Int} {t:List aa} (h:TN q r):OK q u (r::t)=OK q (u+r.cJ) t:=by
 unfold OK;have e:u+AL (r::t)=u+r.cJ+AL t:=by simp only [AL];omega
 rw [e,zej,zdn h,zcr]
theorem Em {q r:aa} {u:Int} {t:List aa} (h:¬ TN q r):OK q u (r::t)=none:=by
 unfold OK;rw [zej,zdr h,zcx,zaa (by simp)]
theorem KG {q:aa} {u:Int} {t:List aa} (h0:0<=u) (h:fM (GP q u)≠0):OK q u t=none:=by
 unfold OK;rw [zaa];rintro ⟨h1,h2⟩;have hp:=KF (q:=q) (t:=t) (λp hp=>by have:=zbb.1 h1 p hp;simpa using this);exact h (KE h2 h0 (by omega))
theorem OL (p q:aa):eI (bE.bR (⟨⟨p.source,p.call⟩,p.kind,p.a,p.b,p.cT,p.bI⟩:bE)) (bE.bR (⟨⟨q.source,q.call⟩,q.kind,q.a,q.b,q.cT,q.bI⟩:bE))=decide (Comm p q):=by
 rw [zbu,zcy];simp [bE.bR,eI,LJ,Comm]
theorem Nn (l:List aa) (hs:∀ r,r∈l->Sm r) (hl:l.length<=1000):fQ l=some (yr (gH l)):=by
 cases l with
 | nil=>rfl
 | cons q l =>
  rw [FG];unfold fQ;have hq:=hs q (zao ..);have e0:nth (q::l) (Int.toNat 0)=q:=rfl;rw [zaa (by simp;omega),af (by simp),e0];simp only [gS,zac];refine bC (q::l) (λs:Int×Int=>s.1) (λs t=>some (yr (OK q s.2 t))) (λs t=>0<=s.2/\s.2<=1099511627776/\∀ r,r∈t->Sm r) (by omega) ?_ ?_ rfl ⟨by decide,by decide,hs⟩
  ·rintro ⟨i,u⟩ ⟨h0,h1,h2⟩ hi;simp only at h0 h1 hi ⊢;unfold jz gM;rw [zaa (by simp only [zah];omega)];change ∃ r,Option.map _ ((dU (GP q u)).bind _)=_/\_;rw [IV _ (TM hq u)];simp only [zac,OK,List.all_nil,AL,true_and,Int.add_zero];by_cases he:fM (GP q u)=0
   ·rw [zaa (by simp [he]),zab he];exact ⟨_,rfl,rfl⟩
   ·rw [zab (by simpa using he),zaa he];exact ⟨_,rfl,rfl⟩
  ·rintro ⟨i,u⟩ r t ⟨h0,h1,h2⟩ l8 jZ hn hlen;simp only at h0 h1 l8 jZ hn hlen ⊢;unfold jz;have hr:=h2 r (zao ..);rw [zab (by simpa using jZ),af ⟨l8,jZ⟩,hn,IV r hr,e0];simp only [gL,da,iq,zac];by_cases hk:r.part≠0/\fM r=0
   ·have b1:(r.part==0)=false:=by simpa using hk.1
    have b2:(fM r != 0)=false:=by simp [hk.2]
    simp only [b1,b2,zcs,zdj,zcf,zcv];rw [af (by simp),OL];by_cases hc:Comm r q
    ·rw [af (by omega)];have gu:=(nr hk.2).cJ;have ze:TN q r:=⟨hk.1,hk.2,hc⟩;by_cases hu:r.cJ > 1099511627776-u
     ·rw [zab (by simp [hc];omega)];refine .inl ⟨_,rfl,?_⟩;rw [BX ze,KG (by omega)]
      ·rfl
      ·intro he;have:=(nr he).cJ;simp only [GP] at this;omega
     ·rw [zaa (by simp [hc];omega),af (by omega),af (by omega)];refine .inr ⟨_,rfl,⟨by simp only;omega,by simp only;omega,λp hp=>h2 p (zal _ hp)⟩,rfl,?_⟩
      rw [BX ze]
    ·rw [af (by simp [hc]),zab (by simp [hc])];refine .inl ⟨_,rfl,?_⟩;rw [Em (λh=>hc h.2.2)];rfl
   ·have hb:((r.part==0) || ((if (!(r.part==0))=true then fM r else default) != 0))=true:=by
     by_cases hp:r.part=0
     ·simp [hp]
     ·simp [hp];intro he;exact hk ⟨hp,he⟩
    simp only [hb,zck,zer,zbf,zbw];rw [af (by simp),af (by simp),zab trivial];refine .inl ⟨_,rfl,?_⟩;rw [Em (λh=>hk ⟨h.1,h.2.1⟩)];rfl
theorem FI (l:List aa) (hs:∀ r,r∈l->Sm r) (hl:l.length<=1000):kT l=some (yr (gH l)):=by
 cases l with
 | nil =>
  unfold kT;refine bC ([]:List aa) (λs:Int×Int×Int×Int×List UInt8×List UInt8×Int×Int×Int×Bool=>s.1) (λs t=>some (yr (gH []))) (λs t=>s=(0,0,0,0,([]:List UInt8),([]:List UInt8),0,0,0,false)/\t=[]) (by simp) ?_ ?_ rfl ⟨rfl,rfl⟩
  ·rintro s ⟨h,_⟩ hi;rw [h];exact ⟨_,rfl,rfl⟩
  ·rintro s a t ⟨_,h⟩;cases h
 | cons q l =>
  rw [FG];unfold kT;have hq:=hs q (zao ..);have e0:nth (q::l) (Int.toNat 0)=q:=rfl;have YU:(0:Int)<((q::l).length:Int):=by simp only [zag];omega
  refine bC (q::l) (λs:Int×Int×Int×Int×List UInt8×List UInt8×Int×Int×Int×Bool=>s.1) (λs t=>some (yr (OK q s.2.2.2.2.2.2.2.1 t)))
   (λs t=>(0<=s.2.2.2.2.2.2.2.1/\s.2.2.2.2.2.2.2.1<=1099511627776)/\(∀ r,r∈t->Sm r)/\(s.1=0∨(fM (GP q s.2.2.2.2.2.2.2.1)=0/\s=(s.1,q.source,q.aZ,q.kind,q.a,q.b,q.start,s.2.2.2.2.2.2.2.1,q.cT,q.bI)))) (by omega) ?_ ?_ rfl ⟨by decide,hs,.inl rfl⟩
  ·rintro ⟨i,c0,c1,c2,c3,c4,c5,u,Wd,We⟩ ⟨h0,h1,h2⟩ hi;simp only at h0 h1 h2 hi ⊢;rcases h2 with h2|⟨h2,h3⟩
   ·omega
   ·injection h3 with _ h3;injection h3 with e0 h3;injection h3 with e1 h3;injection h3 with e2 h3;injection h3 with e3 h3;injection h3 with e4 h3;injection h3 with e5 h3;injection h3 with _ h3;injection h3 with e10 e11;subst e0 e1 e2 e3 e4 e5 e10 e11;unfold pF my;rw [zaa (by simp only [zah];omega),zdn YU];refine ⟨_,rfl,?_⟩;simp only [OK,List.all_nil,AL,true_and,Int.add_zero];rw [zab h2];rfl
  ·rintro ⟨i,c0,c1,c2,c3,c4,c5,u,Wd,We⟩ r t ⟨h0,h1,h2⟩ l8 jZ hn hlen;simp only at h0 h1 h2 l8 jZ hn hlen ⊢;clear h2;unfold pF;have hr:=h1 r (zao ..);rw [zab (by simpa using jZ),af ⟨l8,jZ⟩,hn,yq r hr,e0];simp only [mx,iq,zac];by_cases hk:r.part≠0/\fM r=0
   ·have b1:(r.part==0)=false:=by simpa using hk.1
    have gu:=(nr hk.2).cJ;rw [zaa (by simp [b1,hk.2]),af (by omega),af ⟨Int.le_refl _,YU⟩];by_cases hc:Comm r q
    ·have ze:TN q r:=⟨hk.1,hk.2,hc⟩;rw [zaa (by
      obtain ⟨a1,a2,a3,a4,a5,a6,a7⟩:=hc;simp [a1,a2,a3,a4,a5,a6,a7])]
     change (∃ r_1,((gO (GP q (u+r.cJ))).bind _)=_/\_)∨∃ s',((gO (GP q (u+r.cJ))).bind _)=_/\_;rw [yq _ (TM hq _)];simp only [zac];by_cases he:fM (GP q (u+r.cJ))=0
     ·have ge:=(nr he).cJ;simp only [GP] at ge;rw [zaa (by simp [he]),af (by omega)];refine .inr ⟨_,rfl,⟨by simp only;omega,λp hp=>h1 p (zal _ hp),.inr ⟨he,rfl⟩⟩,rfl,?_⟩
      rw [BX ze]
     ·rw [zab (by simpa using he)];refine .inl ⟨_,rfl,?_⟩;rw [BX ze,KG (by omega) he];rfl
    ·rw [zab (by
      unfold Comm at hc;simp only [zbr,zdl,Bool.and_eq_false_iff,bne_iff_ne,zei];by_cases a1:r.source=q.source
      ·by_cases a2:r.call=q.call
       ·by_cases a3:r.kind=q.kind
        ·by_cases a4:r.a=q.a
         ·by_cases a5:r.b=q.b
          ·by_cases a6:r.cT=q.cT
           ·by_cases a7:r.bI=q.bI
            ·exact absurd ⟨a1,a2,a3,a4,a5,a6,a7⟩ hc
            ·exact .inr a7
           ·exact .inl (.inr a6)
          ·exact .inl (.inl (.inr a5))
         ·exact .inl (.inl (.inl (.inr a4)))
        ·exact .inl (.inl (.inl (.inl (.inr a3))))
       ·exact .inl (.inl (.inl (.inl (.inl (.inr a2)))))
      ·exact .inl (.inl (.inl (.inl (.inl (.inl a1))))))]
     refine .inl ⟨_,rfl,?_⟩;rw [Em (λh=>hc h.2.2)];rfl
   ·rw [zab (by
     by_cases hp:r.part=0
     ·simp [hp]
     ·simp [hp];intro he;exact hk ⟨hp,he⟩)]
    refine .inl ⟨_,rfl,?_⟩;rw [Em (λh=>hk ⟨h.1,h.2.1⟩)];rfl
theorem Sx (b:Bool) (o:Option aa):(if b=true then yr o else W8)=yr (if b=true then o else none):=by split <;> rfl
theorem KH (l:List aa) (hs:∀ r,r∈l->Sm r) (hl:l.length<=1000):mz l=some (yr (yp l)):=by
 unfold mz yp;rw [←Sx];refine bC l (λs:Int=>s) (λs t=>some (if Ss (s+1) t=true then yr (gH l) else W8)) (λs t=>True) (by omega) ?_ ?_ rfl trivial
 ·intro i _ hi;unfold lW jC;rw [zaa (by simp only [zah];omega),FI l hs hl];exact ⟨_,rfl,rfl⟩
 ·intro i r t _ l8 jZ hn hlen;unfold lW;rw [zab (by simpa using jZ),af ⟨l8,jZ⟩,hn,af (by omega),af (λ_=>⟨l8,jZ⟩),af (λ_=>by omega)];have el:((i+1)==(l.length:Int))=t.isEmpty:=by
   rw [zbu];cases t with
   | nil=>simp at hlen ⊢;omega
   | cons=>simp at hlen ⊢;omega
  rw [el];simp only [Ss];by_cases hp:r.part=i+1
  ·by_cases Lm:r.last=t.isEmpty
   ·rw [zaa (by simp [hp,Lm]),af (by omega)];refine .inr ⟨_,rfl,trivial,rfl,?_⟩;simp [hp,Lm]
   ·rw [zab (by simp [hp,Lm])];refine .inl ⟨_,rfl,?_⟩;simp [hp,Lm];rfl
  ·rw [zab (by simp [hp])];refine .inl ⟨_,rfl,?_⟩;simp [hp];rfl
theorem KI (l:List aa) (x:aa) (last:Bool) (hl:l.length<=1000):ng l x last=some (gi last x 1 0 l):=by
 unfold ng;refine bC l (λs:List Int×Int=>s.2) (λs t=>some (s.1++gi last x ((s.1.length:Int)+1) s.2 t)) (λs t=>(s.1.length:Int)<=s.2) (by omega) ?_ ?_ rfl (by simp)
 ·rintro ⟨out,i⟩ h hi;simp only at h hi ⊢;unfold oE;rw [zaa (by simp only [zah];omega)];exact ⟨_,rfl,by simp [gi]⟩
 ·rintro ⟨out,i⟩ r t h l8 jZ hn hlen;simp only at h l8 jZ hn hlen ⊢;unfold oE;rw [zab (by simpa using jZ),af ⟨l8,jZ⟩,hn];simp only [mx,zac];rw [af (λ_=>⟨l8,jZ⟩),af (λ_=>by omega)];have ec:((r.source==x.source) && (r.call==x.call))=df r x:=by rw [zbu,qM];simp
  rw [ec,show gi last x ((out.length:Int)+1) i (r::t)=(if df r x=true/\r.part=(out.length:Int)+1 then (if last=true/\r.last=true then [i] else i::gi last x ((out.length:Int)+1+1) (i+1) t) else gi last x ((out.length:Int)+1) (i+1) t) from rfl];by_cases hc:df r x=true/\r.part=(out.length:Int)+1
  ·rw [zab (by simp [hc.1,hc.2]),af (by simp only [zag,zbc];omega),af (λ_=>⟨l8,jZ⟩),zab hc];by_cases Lm:last=true/\r.last=true
   ·rw [zab (by simp [Lm.1,Lm.2]),zab Lm];exact .inl ⟨_,rfl,rfl⟩
   ·rw [zaa (by simpa using Lm),zaa Lm,af (by omega)];refine .inr ⟨_,rfl,by simp only [zai,zag,zbc];omega,rfl,?_⟩;simp
  ·rw [zaa (by simpa using hc),zaa hc,af (by omega)];exact .inr ⟨_,rfl,by simp only;omega,rfl,rfl⟩
theorem IX (l:List aa) (at':List Int) (hl:l.length<=1000) (ha:at'.length<=1000):oP l at'=some (dZ 0 at' l):=by
 unfold oP;refine (bC l (λs:List aa×List aa×Int×Int=>s.2.2.2) (λs t=>some (s.1++(dZ s.2.2.2 (at'.drop s.2.2.1.toNat) t).1,s.2.1++(dZ s.2.2.2 (at'.drop s.2.2.1.toNat) t).2))
  (λs t=>(0<=s.2.2.1/\s.2.2.1<=(at'.length:Int))/\(s.1.length:Int)<=s.2.2.2/\(s.2.1.length:Int)<=s.2.2.2) (by omega) ?_ ?_ rfl (by simp)).trans (by simp)
 ·rintro ⟨out,rest,k,i⟩ ⟨h0,h1⟩ hi;simp only at h0 h1 hi ⊢;unfold ra;rw [zaa (by simp only [zah];omega)];exact ⟨_,rfl,by cases at'.drop k.toNat <;> simp [dZ]⟩
 ·rintro ⟨out,rest,k,i⟩ r t ⟨h0,h1,h2⟩ l8 jZ hn hlen;simp only at h0 h1 h2 l8 jZ hn hlen ⊢;unfold ra;rw [zab (by simpa using jZ),af (λh=>by simp at h;omega),af ⟨l8,jZ⟩,hn];by_cases hk:k<(at'.length:Int)
  ·have hd:=A8 (l:=at') (k:=k.toNat) (by omega);rw [hd];by_cases he:nth at' k.toNat=i
   ·rw [zab (by simp [he,hk]),af (by simp only [zag,zbc];omega),af (by omega),af (by omega)];refine .inr ⟨_,rfl,⟨by simp only;omega,by simp only [zai,zag,zbc];omega,by simp only;omega⟩,rfl,?_⟩;simp only
    conv=>rhs;unfold dZ
    rw [zab he,show (k+1).toNat=k.toNat+1 from by omega];simp
   ·rw [zaa (by simp [he]),af ⟨l8,jZ⟩,af (by simp only [zag,zbc];omega),af (by omega)];refine .inr ⟨_,rfl,⟨by simp only;omega,by simp only;omega,by simp only [zai,zag,zbc];omega⟩,rfl,?_⟩;simp only;rw [hd]
    conv=>rhs;unfold dZ
    rw [zaa he];simp
  ·rw [zaa (by simp [hk]),af ⟨l8,jZ⟩,af (by simp only [zag,zbc];omega),af (by omega)];refine .inr ⟨_,rfl,⟨by simp only;omega,by simp only;omega,by simp only [zai,zag,zbc];omega⟩,rfl,?_⟩;simp only;rw [zdv (by omega),tw,tw];simp
theorem wh (last:Bool) (x:aa):∀ (n i:Int) (l:List aa),(gi last x n i l).length<=l.length
 | _,_,[]=>zam _
 | n,i,r::l=>by
  have h1:=wh last x (n+1) (i+1) l;have h2:=wh last x n (i+1) l;unfold gi;split
  ·split <;> simp only [zag,zbc] <;> omega
  ·simp only [zag];omega
theorem Wf {last:Bool} {x:aa} {n:Int} {l:List aa} (h:∀ r,r∈l->Sm r):(∀ r,r∈(F6 last x n l).1->Sm r)/\(∀ r,r∈(F6 last x n l).2->Sm r):=by
 have hp:=BT last x n l;exact ⟨λr hr=>h r (hp.mem_iff.1 (zbi.2 (.inl hr))),λr hr=>h r (hp.mem_iff.1 (zbi.2 (.inr hr)))⟩
theorem p7 {α:Type} [Inhabited α] {l:List α} {k:Nat} (h:k<l.length):nth l k∈l:=by rw [r9 h];exact zfi h
theorem j0 {α:Type} [Inhabited α] {a:α} {t:List α} {j:Nat}:nth (a::t) (j+1)=nth t j:=by simp [nth]
theorem lL {α:Type} [Inhabited α] {a:α} {t:List α}:nth (a::t) 0=a:=by simp [nth]
theorem OM (a b:aa):pE a b=some (decide (Lt a b)):=by
 unfold pE;by_cases h1:a.source=b.source
 ·rw [zaa (by simp [h1])];by_cases h2:a.call=b.call
  ·rw [zaa (by simp [h2])];congr 1;rw [zbu,zcy,zcy];unfold Lt;omega
  ·rw [zab (by simpa using h2)];congr 1;rw [zbu,zcy,zcy];unfold Lt;omega
 ·rw [zab (by simpa using h1)];congr 1;rw [zbu,zcy,zcy];unfold Lt;omega
def Sy (l:List aa) (t:List aa):Bool:=t.all λx=>(yp (F6 true x 1 l).1).isNone
def okB (r:aa):Bool:=decide (r.part≠0) && decide (fM r=0)
def zB:Option aa->List aa->Bool
 | _,[]=>true
 | none,r::t=>okB r && zB (some r) t
 | some y,r::t=>okB r && !decide (Lt r y) && zB (some r) t
theorem FJ:∀ (o:Option aa) (t:List aa),zB o t=true↔Sr (o.toList++t)/\∀ r,r∈t->fM r=0/\r.part≠0
 | o,[]=>by cases o <;> simp [zB,Sr]
 | none,r::t=>by
  have ih:=FJ (some r) t;simp only [zB,okB,zar,zah,ih,zdx,zdo,zbz,zdp,zav,forall_eq_or_imp];constructor
  ·intro h;exact ⟨h.2.1,⟨h.1.2,h.1.1⟩,h.2.2⟩
  ·intro h;exact ⟨⟨h.2.1.2,h.2.1.1⟩,h.1,h.2.2⟩
 | some y,r::t=>by
  have ih:=FJ (some r) t;simp only [zB,okB,zar,zah,ih,zdo,zdp,zav,forall_eq_or_imp,zdl,zfb];constructor
  ·rintro ⟨⟨⟨h1,h2⟩,h3⟩,h4,h5⟩;refine ⟨zbn.2 ⟨λz hz=>?_,h4⟩,⟨h2,h1⟩,h5⟩;rcases zav.1 hz with e|hz
   ·rw [e];exact h3
   ·exact Kw h3 ((zbn.1 h4).1 z hz)
  ·rintro ⟨h1,h2,h3⟩;have h4:=zbn.1 h1;exact ⟨⟨⟨h2.2,h2.1⟩,h4.1 r (zao ..)⟩,h4.2,h3⟩
theorem No (l:List aa):(zB none l && Sy l l)=true↔Zs l:=by
 rw [zar,FJ];simp only [zdx,zbz,Sy,zbb,Option.isNone_iff_eq_none];constructor
 ·rintro ⟨⟨h1,h2⟩,h3⟩;refine ⟨h1,h2,λx=>?_⟩;by_cases hx:∃ r,r∈l/\df r x=true
  ·obtain ⟨r,hr,hc⟩:=hx;rw [IT true (oS hc)];exact h3 r hr
  ·rw [KB true (λr hr hc=>hx ⟨r,hr,hc.1⟩)];rfl
 ·rintro ⟨h1,h2,h3⟩;exact ⟨⟨h1,h2⟩,λx _=>h3 x⟩
theorem QQ (l:List aa) (hs:∀ r,r∈l->Sm r) (hl:l.length<=1000):lI l=some (Sy l l):=by
 unfold lI;refine bC l (λs:Int=>s) (λs t=>some (Sy l t)) (λs t=>True) (by omega) ?_ ?_ rfl trivial
 ·intro i _ hi;unfold rb;rw [zaa (by simp only [zah];omega)];exact ⟨_,rfl,rfl⟩
 ·intro i r t _ l8 jZ hn hlen;unfold rb;rw [zab (by simpa using jZ),af ⟨l8,jZ⟩,hn,KI l r true hl];have hp:=wh true r 1 0 l;simp only [zac];rw [IX l _ hl (by omega),AM];simp only [zac];have hc:=Su (last:=true) (x:=r) (n:=1) (l:=l);rw [KH _ (Wf hs).1 (by omega)];simp only [zac,Sy,zej];cases Dc:yp (F6 true r 1 l).1 with
  | none =>
   rw [zaa (by simp [yr,W8]),af (by omega)];exact .inr ⟨_,rfl,trivial,rfl,by simp⟩
  | some w =>
   rw [zab (show (yr (some w)).2=true from rfl)];exact .inl ⟨_,rfl,by simp⟩
theorem Sz (l:List aa) (hs:∀ r,r∈l->Sm r) (hl:l.length<=1000):tU l=some (zB none l && Sy l l):=by
 unfold tU;have:=bC l (λs:Int=>s) (λs t=>some (zB (if s=0 then none else some (nth l (s-1).toNat)) t && Sy l l)) (λs t=>∀ r,r∈t->Sm r) (by omega) (step:=λs=>jV l s) (s:=0) ?_ ?_ rfl hs
 ·exact this
 ·intro i _ hi;unfold jV;rw [zaa (by simp only [zah];omega),QQ l hs hl];exact ⟨_,rfl,by simp [zB]⟩
 ·intro i r t Pd l8 jZ hn hlen;unfold jV;rw [zab (by simpa using jZ),af ⟨l8,jZ⟩,af (λ_=>⟨l8,jZ⟩),hn,yq r (Pd r (zao ..))];simp only [iq,zac];have e1:(i+1=0)=False:=by simp;omega
  have e2:(i+1-1).toNat=i.toNat:=by omega
  by_cases hk:r.part≠0/\fM r=0
  ·have b1:(r.part==0)=false:=by simpa using hk.1
   simp only [b1,hk.2,zcs,zcf,zcv,zfe,zcr];by_cases h0:i=0
   ·rw [af (by simp [h0]),af (by simp [h0]),af (by simp [h0])];simp only [h0,Int.lt_irrefl,zex,ct,zaa,zbf,zbw,zac,zcx,gt_iff_lt];rw [af (by omega)];refine .inr ⟨_,rfl,λp hp=>Pd p (zal _ hp),rfl,?_⟩;have Ul:nth l 0=r:=by rw [←hn,h0];rfl
    simp [zB,okB,hk.1,hk.2,Ul]
   ·have hp:i > 0:=by omega
    rw [af (λ_=>⟨l8,jZ⟩),af (λ_=>by omega),af (λ_=>by omega)];simp only [hp,decide_true,OM,iq,zac,zcf,zcr];rw [zaa h0];generalize nth l (i-1).toNat=y;by_cases hb:Lt r y
    ·rw [zab (by simpa using hb)];exact .inl ⟨_,rfl,by simp [zB,hb]⟩
    ·rw [zaa (by simpa using hb),af (by omega)];refine .inr ⟨_,rfl,λp hp=>Pd p (zal _ hp),rfl,?_⟩;simp only [e1,zbw,e2,hn];simp [zB,okB,hk.1,hk.2,hb]
  ·have hb:((r.part==0) || ((if (!(r.part==0))=true then fM r else default) != 0))=true:=by
    by_cases hp:r.part=0
    ·simp [hp]
    ·simp [hp];intro he;exact hk ⟨hp,he⟩
   simp only [hb,zck,zer,zcx,ct,zbf,zbw,zac];rw [af (by simp),af (by simp),af (by simp),zab trivial];refine .inl ⟨_,rfl,?_⟩;have:okB r=false:=by
    unfold okB;rw [zff];simpa using hk
   by_cases h0:i=0 <;> simp [h0,zB,this]
def Ey (x:aa):aI:=⟨x.source,x.call⟩
theorem Hv (r x:aa):eI (aI.bR ⟨r.source,r.call⟩) (aI.bR (Ey x))=df r x:=by
 rw [zbu,qM];simp [aI.bR,Ey,eI,LJ]
def yt (x:aa):Int->List aa->Int
 | _,[]=>-1
 | i,r::t=>if df r x=true then i else yt x (i+1) t
def runN (x:aa):List aa->Nat
 | []=>0
 | r::t=>if df r x=true then runN x t+1 else 0
theorem SA (l:List aa) (x:aa) (hl:l.length<=1000):po l (Ey x)=some (yt x 0 l):=by
 unfold po;refine bC l (λs:Int=>s) (λs t=>some (yt x s t)) (λs t=>True) (by omega) ?_ ?_ rfl trivial
 ·intro i _ hi;unfold oC;rw [zaa (by simp only [zah];omega)];exact ⟨_,rfl,rfl⟩
 ·intro i r t _ l8 jZ hn hlen;unfold oC;rw [zab (by simpa using jZ),af ⟨l8,jZ⟩,hn];simp only [iV,da,zac,Hv];by_cases h:df r x=true
  ·rw [zab h];exact .inl ⟨_,rfl,by simp [yt,h]⟩
  ·rw [zaa h,af (by omega)];exact .inr ⟨_,rfl,trivial,rfl,by simp [yt,h]⟩
theorem zZ:∀ (x:aa) (i:Int) (t:List aa),yt x i t=-1∨(i<=yt x i t/\yt x i t<i+t.length)
 | x,i,[]=>.inl rfl
 | x,i,r::t=>by
  unfold yt;have:=zZ x (i+1) t;simp only [zag];split <;> omega
theorem Wg (l:List aa) (x:aa) (hl:l.length<=1000):kq l (Ey x)=some (if yt x 0 l<0 then (0,0) else (yt x 0 l,yt x 0 l+runN x (l.drop (yt x 0 l).toNat))):=by
 unfold kq;rw [SA l x hl];have hi:=zZ x 0 l;simp only [zac,zah];split
 ·rfl
 ·refine FF l (λs:Int=>s) (λs t=>some (yt x 0 l,s+(runN x t:Int))) (λs t=>True) (by omega) ?_ ?_ (s:=yt x 0 l) (by omega) trivial
  ·intro i _ hi;unfold j8;rw [af (λh=>by simp at h;omega)];simp only [ct,hi,Int.lt_irrefl,zex,zbf,zbw,zac,zcx];exact ⟨_,rfl,by simp [runN,hi]⟩
  ·intro i r t _ l8 jZ hn hlen;unfold j8;rw [af (λ_=>⟨l8,jZ⟩),hn];simp only [ct,jZ,decide_true,zcf,da,zac,zcr,Hv];by_cases h:df r x=true
   ·rw [zab h,af (by omega)];refine .inr ⟨_,rfl,trivial,rfl,?_⟩;simp only [runN,h,zcf];congr 2;omega
   ·rw [zaa h];refine .inl ⟨_,rfl,?_⟩;simp [runN,h]
def fI (k:Int):Int->List aa->Option Int
 | _,[]=>none
 | i,r::t=>if r.part=k then some i else fI k (i+1) t
theorem IY {k:Int}:∀ {i:Int} {l:List aa} {j:Int},fI k i l=some j->i<=j/\j<i+l.length/\(nth l (j-i).toNat).part=k
 | i,[],j,h=>by cases h
 | i,r::l,j,h=>by
  unfold fI at h;simp only [zag];split at h
  ·rename_i hk;cases h;refine ⟨by omega,by omega,?_⟩;rw [show (i-i).toNat=0 from by omega,lL];exact hk
  ·have ih:=IY h;refine ⟨by omega,by omega,?_⟩;rw [show (j-i).toNat=(j-(i+1)).toNat+1 from by omega,j0];exact ih.2.2
theorem DF (last:Bool) (x:aa) (n:Int):∀ {i:Int} {l:List aa},Sr l->(∀ r,r∈l->df r x=true)->gi last x n i l=match fI n i l with
  | none=>[]
  | some j=>j::if last=true/\(nth l (j-i).toNat).last=true then [] else gi last x (n+1) i l
 | i,[],_,_=>rfl
 | i,r::l,h,hc=>by
  have h2:=zbn.1 h;have hr:=hc r (zao ..);have W9:∀ r,r∈l->df r x=true:=λy hy=>hc y (zal _ hy)
  by_cases hp:r.part=n
  ·have e1:fI n i (r::l)=some i:=by unfold fI;rw [zab hp]
   have e2:gi last x (n+1) i (r::l)=gi last x (n+1) (i+1) l:=by
    conv=>lhs;unfold gi
    rw [zaa (by omega)]
   simp only [e1,e2];rw [show (i-i).toNat=0 from by omega,lL]
   conv=>lhs;unfold gi
   rw [zab ⟨hr,hp⟩];split <;> rfl
  ·have e1:fI n i (r::l)=fI n (i+1) l:=by conv=>lhs;unfold fI;rw [zaa hp]
   have e0:gi last x n i (r::l)=gi last x n (i+1) l:=by
    conv=>lhs;unfold gi
    rw [zaa (λh=>hp h.2)]
   rw [e0,e1,DF last x n h2.2 W9];cases hf:fI n (i+1) l with
   | none=>rfl
   | some j =>
    have hj:=IY hf;have hm:nth l (j-(i+1)).toNat∈l:=p7 (by omega);have e2:gi last x (n+1) i (r::l)=gi last x (n+1) (i+1) l:=by
     conv=>lhs;unfold gi
     rw [zaa (λh=>by
      have:=Sq (h2.1 _ hm) (BS hr (oS (W9 _ hm)));omega)]
    simp only [e2];rw [show (j-i).toNat=(j-(i+1)).toNat+1 from by omega,j0]
theorem Wh (l:List aa) (x:aa) (last:Bool) (hl:l.length<=1000) (hs:Sr l) (hc:∀ r,r∈l->df r x=true) (hp:∀ r,r∈l->r.part<=99):fP l last=some (gi last x 1 0 l):=by
 unfold fP;refine bC l (λs:Int×List (Int×Int)=>s.1) (λs t=>some (gi last x 1 0 l)) (λs t=>∀ k,(aC s.2 k).or (fI k s.1 t)=fI k 0 l) (by omega) ?_ ?_ rfl (λk=>by rw [G0];rfl)
 ·rintro ⟨i,m⟩ hm hi;simp only at hm hi ⊢;have zd:∀ k,aC m k=fI k 0 l:=λk=>by rw [←hm k];simp [fI]
  unfold ef eZ;rw [zaa (by simp only [zah];omega)];have:loop (λs:List Int×Int=>gl l last m s.1 s.2) ([],1)=some (gi last x 1 0 l):=by
   refine (mU (λs:List Int×Int=>some (s.1++gi last x s.2 0 l)) (λs=>1<=s.2/\s.2<=100/\(s.1.length:Int)<=s.2-1) (λs=>(100-s.2).toNat) ?_ ⟨by decide,by decide,by decide⟩ (by decide)).trans (by simp);rintro ⟨out,k⟩ ⟨h0,h1,h2⟩;simp only at h0 h1 h2 ⊢;unfold gl;rw [zd k,DF last x k hs hc];cases hf:fI k 0 l with
   | none =>
    rw [zab (by simp)];exact .inl ⟨_,rfl,by simp⟩
   | some j =>
    have hj:=IY hf;have hk:=hp _ (p7 (l:=l) (k:=(j-0).toNat) (by omega));rw [zaa (by simp),af (by simp only [zag,zbc];omega)];simp only [zco];rw [af (λ_=>by omega),show (j-0).toNat=j.toNat from by omega];by_cases Lm:last=true/\(nth l j.toNat).last=true
    ·rw [zab (by simp [Lm.1,Lm.2]),zab Lm];exact .inl ⟨_,rfl,rfl⟩
    ·rw [zaa (by simpa using Lm),zaa Lm,af (by omega)];refine .inr ⟨_,rfl,⟨by simp only;omega,by simp only;omega,by simp only [zai,zag,zbc];omega⟩,by simp only;omega,?_⟩;simp
  rw [this];exact ⟨_,rfl,rfl⟩
 ·rintro ⟨i,m⟩ r t hm l8 jZ hn hlen;simp only at hm l8 jZ hn hlen ⊢;unfold ef;rw [zab (by simpa using jZ),af ⟨l8,jZ⟩,hn];cases ha:aC m r.part with
  | none =>
   rw [zab (by simp),af (by omega)];refine .inr ⟨_,rfl,λk=>?_,rfl,by first|rfl|trivial⟩;simp only;rw [fw,←hm k];by_cases hk:r.part=k
   ·rw [zab (by simp [hk])];subst hk;simp [ha,fI]
   ·rw [zaa (by simpa using λh=>hk h.symm)];simp [fI,hk]
  | some j =>
   rw [zaa (by simp),af (by omega)];refine .inr ⟨_,rfl,λk=>?_,rfl,by first|rfl|trivial⟩;simp only;rw [←hm k];by_cases hk:r.part=k
   ·subst hk;simp [ha]
   ·simp [fI,hk]
def wi (at':List Int):Int->List aa->List aa
 | _,[]=>[]
 | i,r::t=>if i∈at' then wi at' (i+1) t else r::wi at' (i+1) t
theorem FL {a b:List Int}:∀ {i:Int} {l:List aa},(∀ j,i<=j->(j∈a↔j∈b))->wi a i l=wi b i l
 | _,[],_=>rfl
 | i,r::l,h=>by
  have ih:=FL (i:=i+1) (l:=l) (λj hj=>h j (by omega));unfold wi;simp only [h i (Int.le_refl _),ih]
theorem KJ:∀ (i:Int) (l:List aa),wi [] i l=l
 | _,[]=>rfl
 | i,r::l=>by unfold wi;rw [zaa (by simp),KJ]
theorem C3:∀ (i:Int) (at':List Int) (l:List aa),at'.Pairwise (· < ·)->(∀ a,a∈at'->i<=a/\a<i+l.length)->dZ i at' l=(at'.map λj=>nth l (j-i).toNat,wi at' i l)
 | i,[],l,_,_=>by rw [tw,KJ];rfl
 | i,a::at',[],_,h=>by have:=h a (zao ..);simp at this;omega
 | i,a::at',r::l,hp,h=>by
  have h2:=zbn.1 hp;have ha:=h a (zao ..);unfold dZ;by_cases e:a=i
  ·subst e;rw [zab rfl,C3 (a+1) at' l h2.2 (λb hb=>by
    have h3:=h b (zal _ hb);have h4:=h2.1 b hb;simp only [zag] at h3;omega)]
   have e1:(at'.map λj=>nth (r::l) (j-a).toNat)=at'.map λj=>nth l (j-(a+1)).toNat:=List.map_congr_left (λb hb=>by
    have h4:=h2.1 b hb;rw [show (b-a).toNat=(b-(a+1)).toNat+1 from by omega,j0])
   have e2:wi (a::at') a (r::l)=wi at' (a+1) l:=by
    conv=>lhs;unfold wi
    rw [zab (zao ..)];exact FL (λj hj=>by simp;omega)
   simp only [zap,e1,e2];rw [show (a-a).toNat=0 from by omega,lL]
  ·have oG:∀ b,b∈a::at'->i+1<=b/\b<i+1+l.length:=λb hb=>by
    have h3:=h b hb;simp only [zag] at h3;rcases zav.1 hb with hb|hb
    ·omega
    ·have:=h2.1 b hb;omega
   rw [zaa e,C3 (i+1) (a::at') l hp oG];have e1:((a::at').map λj=>nth (r::l) (j-i).toNat)=(a::at').map λj=>nth l (j-(i+1)).toNat:=List.map_congr_left (λb hb=>by
    have h4:=oG b hb;rw [show (b-i).toNat=(b-(i+1)).toNat+1 from by omega,j0])
   have e2:wi (a::at') i (r::l)=r::wi (a::at') (i+1) l:=by
    conv=>lhs;unfold wi
    rw [zaa (λhb=>by have:=oG i hb;omega)]
   rw [e1,e2]
theorem QR (l:List aa) (at':List Int) (hl:l.length<=1000) (hal:at'.length<=1000) (hp:at'.Pairwise (· < ·)) (hb:∀ a,a∈at'->0<=a/\a<(l.length:Int)):iM l at'=some (dZ 0 at' l):=by
 unfold iM;rw [C3 0 at' l hp (λa ha=>by have:=hb a ha;omega)];refine bC at' (λs:List aa×Int×List (Int×Bool)=>s.2.1) (λs t=>some (at'.map (λj=>nth l (j-0).toNat),wi at' 0 l))
  (λs t=>(s.1.length:Int)<=s.2.1/\s.1++t.map (λj=>nth l (j-0).toNat)=at'.map (λj=>nth l (j-0).toNat)/\(∀ j,((aC s.2.2 j).getD false=true∨j∈t)↔j∈at')/\(∀ a,a∈t->0<=a/\a<(l.length:Int))) (by omega) ?_ ?_ (s:=(([]:List aa),(0:Int),([]:List (Int×Bool)))) rfl ⟨by simp,rfl,λj=>by simp [G0],hb⟩
 ·rintro ⟨out,i,m⟩ ⟨h1,h2,h3,h4⟩ hi;simp only at h1 h2 h3 h4 hi ⊢;have hm:∀ j,(aC m j).getD false=decide (j∈at'):=λj=>by rw [zbu,zcy,←h3 j];simp
  rw [zbd,zcg] at h2;unfold fX ij;rw [zaa (by simp only [zah];omega),←h2];have:loop (λs:List aa×Int=>ig l out m s.1 s.2) ([],0)=some (out,wi at' 0 l):=by
   refine (bC l (λs:List aa×Int=>s.2) (λs t=>some (out,s.1++wi at' s.2 t)) (λs t=>(s.1.length:Int)<=s.2) (by omega) ?_ ?_ rfl (by simp)).trans (by simp)
   ·rintro ⟨oth,k⟩ hq hk;simp only at hq hk ⊢;unfold ig;rw [zaa (by simp only [zah];omega)];exact ⟨_,rfl,by simp [wi]⟩
   ·rintro ⟨oth,k⟩ r t hq Oy cD hn hlen;simp only at hq Oy cD hn hlen ⊢;unfold ig;rw [zab (by simpa using cD),af ⟨Oy,cD⟩,hn,hm k];by_cases sW:k∈at'
    ·rw [zaa (by simpa using sW),af (by omega)];refine .inr ⟨_,rfl,by simp only;omega,rfl,?_⟩;simp [wi,sW]
    ·rw [zab (by simpa using sW),af (by simp only [zag,zbc];omega),af (by omega)];refine .inr ⟨_,rfl,by simp only [zai,zag,zbc];omega,rfl,?_⟩;simp [wi,sW]
  rw [this];exact ⟨_,rfl,rfl⟩
 ·rintro ⟨out,i,m⟩ a t ⟨h1,h2,h3,h4⟩ l8 jZ hn hlen;simp only at h1 h2 h3 h4 l8 jZ hn hlen ⊢;have ha:=h4 a (zao ..);unfold fX;rw [zab (by simpa using jZ),af ⟨l8,jZ⟩,hn,af ha,af (by simp only [zag,zbc];omega),af (by omega)];refine .inr ⟨_,rfl,⟨?_,?_,λj=>?_,λb hb=>h4 b (zal _ hb)⟩,rfl,by first|rfl|trivial⟩
  ·simp only [zai,zag,zbc];omega
  ·simp only;rw [←h2,zap,show (a-0).toNat=a.toNat from by omega];simp
  ·simp only;rw [fw,←h3 j];by_cases hj:j=a
   ·rw [zab (by simp [hj])];simp [hj]
   ·rw [zaa (by simpa using hj)];simp [hj]
theorem KK (x:aa):∀ (l:List aa),runN x l=(dJ x l).length
 | []=>rfl
 | r::l=>by
  have ih:=KK x l;unfold runN;unfold dJ at ih ⊢;by_cases h:df r x=true
  ·rw [zab h,zev (p:=λr=>df r x) h,zag,ih]
  ·rw [zaa h,List.takeWhile_cons_of_neg (p:=λr=>df r x) h];rfl
structure Wt (l:List aa):Prop where
 TK:Sr l
 ok:∀ r,r∈l->fM r=0
theorem Wt.sm {l:List aa} (h:Wt l):∀ r,r∈l->Sm r:=λr hr=>IW (h.ok r hr)
theorem Wt.le {l:List aa} (h:Wt l):∀ r,r∈l->r.part<=99:=λr hr=>(nr (h.ok r hr)).part.2
theorem Wt.sub {l l':List aa} (h:Wt l) (hs:l'.Sublist l):Wt l':=⟨h.TK.sublist hs,λr hr=>h.ok r (hs.subset hr)⟩
theorem Zs.wt {l:List aa} (h:Zs l):Wt l:=⟨h.TK,λr hr=>(h.ok r hr).1⟩
theorem Wt.ins {l:List aa} (h:Wt l) {p:aa} (hp:fM p=0):Wt (Ky l p):=⟨KA h.TK,λr hr=>by
 rcases Kz.1 hr with e|hr
 ·rw [e];exact hp
 ·exact h.ok r hr⟩
theorem yU (b:Int):∀ (m m':Nat) (l:List aa),l.length<=m->l.length<=m'->jJ b m l=jJ b m' l
 | 0,0,_,_,_=>rfl
 | 0,m'+1,[],_,_=>rfl
 | m+1,0,[],_,_=>rfl
 | m+1,m'+1,[],_,_=>rfl
 | m+1,m'+1,x::l,h,h'=>by
  have hl:=FE x l;simp only [zag] at h h';unfold jJ;rw [yU b m m' (jn x (x::l)) (by omega) (by omega)]
theorem yV (x:aa) (l:List aa):BW (x::l)=(gH (dZ 0 (qO (x::l) (gi false x 1 0 (x::l)) (gi false x 1 0 (x::l)).length) (x::l)).1).toList++(dZ 0 (qO (x::l) (gi false x 1 0 (x::l)) (gi false x 1 0 (x::l)).length) (x::l)).2.map sF:=rfl
theorem C4 (l:List aa) (at':List Int) (m:Nat):qO l at' (m+1)=if (gH (dZ 0 (at'.take (m+1)) l).1).isSome=true then at'.take (m+1) else qO l at' m:=rfl
theorem FM:∀ (l:List aa),(BW l).length<=l.length
 | []=>zam _
 | x::l=>by
  rw [yV];generalize qO (x::l) (gi false x 1 0 (x::l)) (gi false x 1 0 (x::l)).length=at';have hp:=(qN 0 at' (x::l)).length_eq;simp only [zai,zdy,zag] at hp ⊢;cases hw:gH (dZ 0 at' (x::l)).1 with
  | none=>simp only [zdx,zbc];omega
  | some w =>
   have:0<(dZ 0 at' (x::l)).1.length:=by
    cases hq:(dZ 0 at' (x::l)).1 with
    | nil=>rw [hq] at hw;cases hw
    | cons=>simp
   simp only [zdo,zag,zbc];omega
theorem yu (x:aa) (l:List aa):dJ x (x::l)=x::dJ x l:=zev (p:=λr=>df r x) (AN x)
theorem En (x:aa) (l:List aa):(dJ x l).Sublist l:=List.takeWhile_sublist _
theorem QS (x:aa) (l:List aa):(jn x l).Sublist l:=List.dropWhile_sublist _
theorem KL (x:aa) (l:List aa):l.take (dJ x l).length=dJ x l:=by
 conv=>lhs;rw [←pZ x l]
 rw [pZ,←pZ x l,pZ]
 conv=>lhs;arg 2;rw [←pZ x l]
 exact List.take_left
theorem FN (x:aa) (l:List aa):l.drop (dJ x l).length=jn x l:=by
 conv=>lhs;arg 2;rw [←pZ x l]
 exact List.drop_left
theorem BY {i:Int} {at':List Int} {l:List aa} (h:∀ r,r∈l->Sm r):(∀ r,r∈(dZ i at' l).1->Sm r)/\(∀ r,r∈(dZ i at' l).2->Sm r):=by
 have hp:=qN i at' l;exact ⟨λr hr=>h r (hp.mem_iff.1 (zbi.2 (.inl hr))),λr hr=>h r (hp.mem_iff.1 (zbi.2 (.inr hr)))⟩
theorem yW (i:Int) (at':List Int) (l:List aa):(dZ i at' l).1.length<=l.length/\(dZ i at' l).2.length<=l.length:=by
 have hp:=(qN i at' l).length_eq;rw [zai] at hp;omega
theorem KM (o:Option aa):(yr o).2=o.isSome:=by cases o <;> rfl
theorem Np (l:List aa) (at':List Int) (hs:∀ r,r∈l->Sm r) (hl:l.length<=1000) (ha:at'.length<=1000):lx l at'=some ((gH (dZ 0 at' l).1).toList++(dZ 0 at' l).2.map sF):=by
 unfold lx;rw [IX l at' hl ha];have Pw:=yW 0 at' l;simp only [zac];rw [FI _ (BY hs).1 (by omega)];simp only [zac];generalize VY:dZ 0 at' l=pk at Pw ⊢;have key:∀ (o:List aa) (c0 c1 c2:Int) (c3 c4:List UInt8) (c5 c6 c7 c8:Int) (c9:Bool) (Wd:Int) (We:Bool),o.length<=1->lv pk o c0 c1 c2 c3 c4 c5 c6 c7 c8 c9 Wd We=some (o++pk.2.map sF):=by
  intro o c0 c1 c2 c3 c4 c5 c6 c7 c8 c9 Wd We ho;unfold lv;refine bC pk.2 (λs:List aa×Int=>s.2) (λs t=>some (s.1++t.map sF)) (λs t=>(s.1.length:Int)<=s.2+1) (by omega) ?_ ?_ (s:=(o,(0:Int))) rfl (by simp only;omega)
  ·rintro ⟨q,i⟩ h hi;simp only at h hi ⊢;unfold tb;rw [zaa (by simp only [zah];omega)];exact ⟨_,rfl,by simp⟩
  ·rintro ⟨q,i⟩ r t h l8 jZ hn hlen;simp only at h l8 jZ hn hlen ⊢;unfold tb;rw [zab (by simpa using jZ),af ⟨l8,jZ⟩,hn];simp only [uV,zac];rw [af (by simp only [zag,zbc];omega),af (by omega)];refine .inr ⟨_,rfl,by simp only [zai,zag,zbc];omega,rfl,?_⟩;simp only [zap,zax];rfl
 cases hw:gH pk.1 with
 | none =>
  rw [zaa (by simp [yr,W8]),key _ _ _ _ _ _ _ _ _ _ _ _ _ (by simp)];rfl
 | some w =>
  rw [zab (show (yr (some w)).2=true from rfl),af (by simp),key _ _ _ _ _ _ _ _ _ _ _ _ _ (by simp)];rfl
theorem Wi (x:aa) (l:List aa) (hs:∀ r,r∈x::l->Sm r) (hl:(x::l).length<=1000):tu (x::l)=some (BW (x::l)):=by
 unfold tu;rw [af (by simp only [zag];omega),show nth (x::l) (Int.toNat 0)=x from rfl,KI _ x false hl];have Pw:=wh false x 1 0 (x::l);simp only [zac];generalize hP:gi false x 1 0 (x::l)=P at Pw;have he:BW (x::l)=(gH (dZ 0 (qO (x::l) P P.length) (x::l)).1).toList++(dZ 0 (qO (x::l) P P.length) (x::l)).2.map sF:=by
  rw [yV,hP]
 rw [he];generalize x::l=run at *;refine (mU (λs:List Int=>some ((gH (dZ 0 (qO run P s.length) run).1).toList++(dZ 0 (qO run P s.length) run).2.map sF)) (λs=>s=P.take s.length/\s.length<=P.length) (λs=>s.length) ?_ ⟨by simp,zam _⟩ (by omega));rintro s ⟨h1,h2⟩;unfold pS;by_cases h0:s.length=0
 ·have:s=[]:=List.length_eq_zero_iff.1 h0;subst this;rw [zaa (by simp),Np run [] hs hl (by simp)];exact .inl ⟨_,rfl,rfl⟩
 ·rw [zab (by simp;omega),IX run s hl (by omega)];have VY:=yW 0 s run;simp only [zac];rw [FI _ (BY hs).1 (by omega)];simp only [zac,KM];obtain ⟨m,hm⟩:∃ m,s.length=m+1:=⟨s.length-1,by omega⟩;have hsh:qO run P s.length=if (gH (dZ 0 s run).1).isSome=true then s else qO run P m:=by
   rw [hm,C4,←hm,←h1]
  rw [hsh];by_cases hw:(gH (dZ 0 s run).1).isSome=true
  ·rw [zab hw,zab hw,Np run s hs hl (by omega)];exact .inl ⟨_,rfl,rfl⟩
  ·rw [zaa hw,zaa hw,af (by omega),af (by omega)];have e:(s.take ((s.length:Int) - 1).toNat)=P.take m:=by
    rw [show ((s.length:Int) - 1).toNat=m from by omega]
    conv=>lhs;rw [h1]
    rw [zez,hm];congr 1;omega
   have el:(P.take m).length=m:=by rw [zay];omega
   rw [e];exact .inr ⟨_,rfl,⟨by rw [el],by rw [el];omega⟩,by rw [el];omega,by simp only [el]⟩
theorem ON (l:List aa) (b:Int) (hs:∀ r,r∈l->Sm r) (hl:l.length<=1000):pT l b=some (jJ b l.length l):=by
 unfold pT;refine (mU (λs:List aa×List aa×Int=>some (s.1++(jJ b l.length (l.drop s.2.2.toNat)).1,s.2.1++(jJ b l.length (l.drop s.2.2.toNat)).2)) (λs=>0<=s.2.2/\s.2.2<=(l.length:Int)/\(s.1.length:Int)+s.2.1.length<=s.2.2) (λs=>((l.length:Int) - s.2.2).toNat) ?_ (s:=(([]:List aa),([]:List aa),(0:Int))) ⟨by decide,by simp only;omega,by simp⟩ (by simp only;omega)).trans (by simp);rintro ⟨out,left,i⟩ ⟨h0,h1,h2⟩;simp only at h0 h1 h2 ⊢;unfold sx;by_cases hi:i<(l.length:Int)
 ·rw [zab (by simpa using hi)];have hd:=A8 (l:=l) (k:=i.toNat) (by omega);have AS:(l.drop i.toNat).length=l.length-i.toNat:=zbh;generalize hx:nth l i.toNat=x at hd;generalize ht:l.drop (i.toNat+1)=t at hd;have hsd:∀ r,r∈x::t->Sm r:=λr hr=>hs r (by rw [←hd] at hr;exact zct hr);have hrn:(dJ x (x::t)).length=(dJ x t).length+1:=by rw [yu];rfl
  have O6:(dJ x (x::t)).length<=(x::t).length:=(En x _).length_le;rw [hd] at AS;have hk:(i:Int)+((dJ x (x::t)).length:Int)<=(l.length:Int):=by omega
  have Wj:(l.take (i+((dJ x (x::t)).length:Int)).toNat).drop i.toNat=dJ x (x::t):=by
   rw [List.drop_take,hd,show (i+((dJ x (x::t)).length:Int)).toNat-i.toNat=(dJ x (x::t)).length from by omega,KL]
  have DC:l.drop (i+((dJ x (x::t)).length:Int)).toNat=jn x (x::t):=by
   rw [show (i+((dJ x (x::t)).length:Int)).toNat=i.toNat+(dJ x (x::t)).length from by omega,←List.drop_drop,hd,FN]
  have hel:=FM (dJ x (x::t));have hexp:jJ b l.length (x::t)=jJ b ((jn x (x::t)).length+1+t.length) (x::t):=yU b _ _ _ (by omega) (by simp only [zag];omega);obtain ⟨m,hm⟩:∃ m,l.length=m+1:=⟨l.length-1,by omega⟩;have UA:=FE x t;have QT:jJ b l.length (x::t)=if (dJ x (x::t)).any (λr=>decide (b<=r.start))=true then ((jJ b l.length (jn x (x::t))).1,dJ x (x::t)++(jJ b l.length (jn x (x::t))).2) else (BW (dJ x (x::t))++(jJ b l.length (jn x (x::t))).1,(jJ b l.length (jn x (x::t))).2):=by
   conv=>lhs;rw [hm];unfold jJ
   simp only [zag] at AS;rw [yU b m l.length (jn x (x::t)) (by omega) (by omega)]
  have hj:hZ l out left i (i+((dJ x (x::t)).length:Int)) ((dJ x (x::t)).any (λr=>decide (b<=r.start)))=some (.inl (if (dJ x (x::t)).any (λr=>decide (b<=r.start))=true then (out,left++dJ x (x::t),i+((dJ x (x::t)).length:Int)) else (out++BW (dJ x (x::t)),left,i+((dJ x (x::t)).length:Int)))):=by
   unfold hZ;rw [Wj];split
   ·rw [af (by omega),af (by omega)]
   ·rw [af (by omega)];have:tu (dJ x (x::t))=some (BW (dJ x (x::t))):=by
     rw [yu];have hss:=En x (x::t);rw [yu] at hss O6;simp only [zag] at O6 AS;exact Wi x _ (λr hr=>hsd r (hss.subset hr)) (by simp only [zag];omega)
    rw [this];simp only [zac];rw [af (by omega)]
  have YV:loop (λs:Int×Bool=>jt l b out left i s.1 s.2) (i,false)=some (.inl (if (dJ x (x::t)).any (λr=>decide (b<=r.start))=true then (out,left++dJ x (x::t),i+((dJ x (x::t)).length:Int)) else (out++BW (dJ x (x::t)),left,i+((dJ x (x::t)).length:Int)))):=by
   rw [←hj];have lX:=FF l (step:=λs:Int×Bool=>jt l b out left i s.1 s.2) (λs:Int×Bool=>s.1) (λs _=>hZ l out left i (i+((dJ x (x::t)).length:Int)) ((dJ x (x::t)).any (λr=>decide (b<=r.start))))
    (λs u=>s.1+((dJ x u).length:Int)=i+((dJ x (x::t)).length:Int)/\(s.2 || (dJ x u).any (λr=>decide (b<=r.start)))=(dJ x (x::t)).any (λr=>decide (b<=r.start))) (by omega) ?_ ?_ (s:=(i,false)) ⟨h0,by simp only;omega⟩ (by simp only [hd,zcv,and_self])
   ·exact lX
   ·rintro ⟨k,late⟩ ⟨e1,e2⟩ he;simp only at e1 e2 he ⊢;unfold jt;have cZ:decide (k<(l.length:Int))=false:=by simp;omega
    rw [af (by simp [cZ]),af (by simp [cZ])];simp only [cZ,ct,zbf,zbw,zac,zcx];simp only [dJ,List.takeWhile_nil,zbc,zeq,zdj] at e1 e2;simp only [dJ] at hj ⊢;rw [show k=i+((List.takeWhile (λr=>df r x) (x::t)).length:Int) from by omega,e2,hj];exact ⟨_,rfl,rfl⟩
   ·rintro ⟨k,late⟩ r u ⟨e1,e2⟩ Oy cD hn hlen;simp only at e1 e2 Oy cD hn hlen ⊢;unfold jt;have cZ:decide (k<(l.length:Int))=true:=by simpa using cD
    rw [af (λ_=>⟨Oy,cD⟩),af (λ_=>⟨h0,hi⟩)];simp only [cZ,ct,zcf,hn,hx,mx,zac,zcr];have ec:((r.source==x.source) && (r.call==x.call))=df r x:=by rw [zbu,qM];simp
    rw [ec];by_cases hc:df r x=true
    ·rw [zab hc,af (λ_=>⟨Oy,cD⟩),af (by omega)];have eru:dJ x (r::u)=r::dJ x u:=zev (p:=λr=>df r x) hc;rw [eru] at e1 e2;simp only [zag,zdz] at e1 e2;refine .inr ⟨_,rfl,⟨by simp only;omega,?_⟩,rfl,by first|rfl|trivial⟩;simp only;rw [←e2];simp only [ge_iff_le,Bool.or_assoc]
    ·rw [zaa hc];have eru:dJ x (r::u)=[]:=List.takeWhile_cons_of_neg (p:=λr=>df r x) hc;rw [eru] at e1 e2;simp only [zbc,zeq,zdj] at e1 e2;rw [show k=i+((dJ x (x::t)).length:Int) from by omega,e2,hj];exact .inl ⟨_,rfl,rfl⟩
  rw [YV,hd,QT];right;split
  ·refine ⟨_,rfl,⟨by simp only;omega,hk,by simp only [zai];omega⟩,by simp only;omega,?_⟩;simp only [DC];simp
  ·refine ⟨_,rfl,⟨by simp only;omega,hk,by simp only [zai];omega⟩,by simp only;omega,?_⟩;simp only [DC];simp
 ·rw [zaa (by simpa using hi),zdv (by omega)];refine .inl ⟨_,rfl,?_⟩;have:jJ b l.length []=([],[]):=by cases l.length <;> rfl
  rw [this];simp
def KN (b:Int):Int->List aa->Int
 | _,[]=>-1
 | i,r::t=>if b<=r.start then i else KN b (i+1) t
theorem KO (b:Int):∀ (i:Int) (t:List aa),0<=i->decide (KN b i t>=0)=t.any (λr=>decide (b<=r.start))
 | i,[],_=>by simp [KN]
 | i,r::t,h=>by
  unfold KN;by_cases hb:b<=r.start
  ·simp [hb,h]
  ·rw [zaa hb,KO b (i+1) t (by omega)];simp [hb]
theorem Wk (l:List aa) (b:Int) (hl:l.length<=1000):lF l b=some (l.any (λr=>decide (b<=r.start))):=by
 unfold lF;have:lE l b=some (KN b 0 l):=by
  unfold lE;refine bC l (λs:Int=>s) (λs t=>some (KN b s t)) (λs t=>True) (by omega) ?_ ?_ rfl trivial
  ·intro i _ hi;unfold lu;rw [zaa (by simp only [zah];omega)];exact ⟨_,rfl,rfl⟩
  ·intro i r t _ l8 jZ hn hlen;unfold lu;rw [zab (by simpa using jZ),af ⟨l8,jZ⟩,hn];simp only [jG,zac,ge_iff_le];by_cases h:b<=r.start
   ·rw [zab (by simpa using h)];exact .inl ⟨_,rfl,by simp [KN,h]⟩
   ·rw [zaa (by simpa using h),af (by omega)];exact .inr ⟨_,rfl,trivial,rfl,by simp [KN,h]⟩
 rw [this];simp only [zac];rw [KO b 0 l (Int.le_refl _)]
theorem KP {l:List aa} {P:List Int} (hp:P.Pairwise (· < ·)):∀ (m:Nat),(qO l P m).Pairwise (· < ·)/\(∀ a,a∈qO l P m->a∈P)/\(qO l P m).length<=P.length
 | 0=>⟨.nil,by simp [qO],by simp [qO]⟩
 | m+1=>by
  rw [C4];split
  ·exact ⟨hp.sublist (List.take_sublist _ _),λa ha=>zed ha,by rw [zay];omega⟩
  ·exact KP hp m
theorem SB (x:aa) (run:List aa) (hw:Wt run) (hc:∀ r,r∈run->df r x=true) (hl:run.length<=1000):jF run=some (qO run (gi false x 1 0 run) (gi false x 1 0 run).length):=by
 unfold jF;rw [Wh run x false hl hw.TK hc hw.le];have Pw:=wh false x 1 0 run;have Rx:=yT false x 1 0 run;have hpa:=BV false x 1 0 run;simp only [zac];generalize gi false x 1 0 run=P at Pw Rx hpa ⊢;refine (mU (λs:List Int=>some (qO run P s.length)) (λs=>s=P.take s.length/\s.length<=P.length) (λs=>s.length) ?_ ⟨by simp,zam _⟩ (by omega));rintro s ⟨h1,h2⟩;unfold mO;by_cases h0:s.length=0
 ·have:s=[]:=List.length_eq_zero_iff.1 h0;subst this;rw [zaa (by simp)];exact .inl ⟨_,rfl,rfl⟩
 ·have TO:s.Pairwise (· < ·):=by rw [h1];exact hpa.sublist (List.take_sublist _ _)
  have hsb:∀ a,a∈s->0<=a/\a<(run.length:Int):=λa ha=>by
   rw [h1] at ha;have:=Rx a (zed ha);omega
  rw [zab (by simp;omega),QR run s hl (by omega) TO hsb];have VY:=yW 0 s run;simp only [zac];rw [Nn _ (BY hw.sm).1 (by omega)];simp only [zac,KM];obtain ⟨m,hm⟩:∃ m,s.length=m+1:=⟨s.length-1,by omega⟩;have hsh:qO run P s.length=if (gH (dZ 0 s run).1).isSome=true then s else qO run P m:=by
   rw [hm,C4,←hm,←h1]
  rw [hsh];by_cases Wl:(gH (dZ 0 s run).1).isSome=true
  ·rw [zab Wl,zab Wl];exact .inl ⟨_,rfl,rfl⟩
  ·rw [zaa Wl,zaa Wl,af (by omega),af (by omega)];have e:(s.take ((s.length:Int) - 1).toNat)=P.take m:=by
    rw [show ((s.length:Int) - 1).toNat=m from by omega]
    conv=>lhs;rw [h1]
    rw [zez,hm];congr 1;omega
   have el:(P.take m).length=m:=by rw [zay];omega
   rw [e];exact .inr ⟨_,rfl,⟨by rw [el],by rw [el];omega⟩,by rw [el];omega,by simp only [el]⟩
theorem QU (l:List aa) (b:Int) (hw:Wt l) (hl:l.length<=1000):jf l b=some (jJ b l.length l):=by
 unfold jf dX;rw [af (by omega)];simp only [zac];refine (mU (λs:List aa×List aa×List aa=>some (s.1++(jJ b l.length s.2.2).1,s.2.1++(jJ b l.length s.2.2).2)) (λs=>Wt s.2.2/\s.1.length+s.2.1.length+s.2.2.length<=l.length) (λs=>s.2.2.length) ?_ (s:=(([]:List aa),([]:List aa),l)) ⟨hw,by simp⟩ (by simp only;omega)).trans (by simp);rintro ⟨out,left,rest⟩ ⟨h1,h2⟩;simp only at h1 h2 ⊢;unfold lO;cases rest with
 | nil =>
  rw [zaa (by simp)];refine .inl ⟨_,rfl,?_⟩;have:jJ b l.length []=([],[]):=by cases l.length <;> rfl
  rw [this];simp
 | cons x t =>
  simp only [zag] at h2;have O6:=(En x (x::t)).length_le;have hrn:(dJ x (x::t)).length=(dJ x t).length+1:=by rw [yu];rfl
  have hwr:Wt (dJ x (x::t)):=h1.sub (En _ _);have hws:Wt (jn x (x::t)):=h1.sub (QS _ _);have UA:=FE x t;have htot:(dJ x (x::t)).length+(jn x (x::t)).length=t.length+1:=by
   have:=zbm List.length (pZ x (x::t));rw [zai] at this;exact this
  have hel:=FM (dJ x (x::t));obtain ⟨m,hm⟩:∃ m,l.length=m+1:=⟨l.length-1,by omega⟩;have QT:jJ b l.length (x::t)=if (dJ x (x::t)).any (λr=>decide (b<=r.start))=true then ((jJ b l.length (jn x (x::t))).1,dJ x (x::t)++(jJ b l.length (jn x (x::t))).2) else (BW (dJ x (x::t))++(jJ b l.length (jn x (x::t))).1,(jJ b l.length (jn x (x::t))).2):=by
   conv=>lhs;rw [hm];unfold jJ
   rw [yU b m l.length (jn x (x::t)) (by omega) (by omega)]
  have hix:yt x 0 (x::t)=0:=by unfold yt;rw [zab (AN x)]
  simp only [zag] at O6;rw [zab (by simp),af (by simp only [zag];omega),show nth (x::t) (Int.toNat 0)=x from rfl];simp only [da,zac];rw [show (⟨x.source,x.call⟩:aI)=Ey x from rfl,Wg (x::t) x (by simp only [zag];omega),hix,zaa (by omega)];simp only [zac,Int.toNat_zero,List.drop_zero,KK,Int.zero_add,zch];rw [af (by simp only [zag];omega),af (by simp only [zag];omega)];simp only [KL,FN];rw [Wk _ b (by omega)];simp only [zac];rw [QT];by_cases SC:(dJ x (x::t)).any (λr=>decide (b<=r.start))=true
  ·rw [zab SC,zab SC,af (by omega)];refine .inr ⟨_,rfl,⟨hws,by simp only [zai];omega⟩,by simp only [zag];omega,?_⟩;simp
  ·rw [zaa SC,zaa SC,SB x _ hwr QP (by omega)];have Pw:=wh false x 1 0 (dJ x (x::t));have Rx:=yT false x 1 0 (dJ x (x::t));obtain ⟨q1,q2,q3⟩:=KP (l:=dJ x (x::t)) (BV false x 1 0 (dJ x (x::t))) (gi false x 1 0 (dJ x (x::t))).length;simp only [zac];rw [QR _ _ (by omega) (by omega) q1 (λa ha=>by have:=Rx a (q2 a ha);omega)];have he:BW (dJ x (x::t))=(gH (dZ 0 (qO (dJ x (x::t)) (gi false x 1 0 (dJ x (x::t))) (gi false x 1 0 (dJ x (x::t))).length) (dJ x (x::t))).1).toList++(dZ 0 (qO (dJ x (x::t)) (gi false x 1 0 (dJ x (x::t))) (gi false x 1 0 (dJ x (x::t))).length) (dJ x (x::t))).2.map sF:=by
    rw [yu];exact yV x _
   generalize qO (dJ x (x::t)) (gi false x 1 0 (dJ x (x::t))) (gi false x 1 0 (dJ x (x::t))).length=at' at he;have VY:=yW 0 at' (dJ x (x::t));have hpm:=BY (i:=0) (at':=at') hwr.sm;simp only [zac];rw [Nn _ hpm.1 (by omega)];simp only [zac];generalize hpg:dZ 0 at' (dJ x (x::t))=pk at VY he;have key:∀ (o:List aa) (c0 c1 c2:Int) (c3 c4:List UInt8) (c5 c6 c7 c8:Int) (c9:Bool) (Wd:Int) (We:Bool),o.length<=2000->eF left (x::t) ((0:Int),((dJ x (x::t)).length:Int)) pk o c0 c1 c2 c3 c4 c5 c6 c7 c8 c9 Wd We=some (.inl (o++pk.2.map sF,left,jn x (x::t))):=by
    intro o c0 c1 c2 c3 c4 c5 c6 c7 c8 c9 Wd We ho;unfold eF;refine bC pk.2 (λs:List aa×Int=>s.2) (λs t'=>(some (Sum.inl (s.1++t'.map sF,left,jn x (x::t))):Option ((List aa×List aa×List aa) ⊕ (List aa×List aa)))) (λs t'=>(s.1.length:Int)<=s.2+2000) (by omega) ?_ ?_ (s:=(o,(0:Int))) rfl (by simp only;omega)
    ·rintro ⟨q,i⟩ h hi;simp only at h hi ⊢;unfold jm;rw [zaa (by simp only [zah];omega)];refine ⟨_,rfl,?_⟩;simp only [zch,FN];simp
    ·rintro ⟨q,i⟩ r t' h l8 jZ hn hlen;simp only at h l8 jZ hn hlen ⊢;unfold jm;rw [zab (by simpa using jZ),af ⟨l8,jZ⟩,hn];simp only [gS,zac];rw [af (by simp only [zag,zbc];omega),af (by omega)];refine .inr ⟨_,rfl,by simp only [zai,zag,zbc];omega,rfl,?_⟩;simp only [zap,zax];rfl
   cases Wl:gH pk.1 with
   | none =>
    rw [Wl] at he;rw [zaa (by simp [yr,W8]),key _ _ _ _ _ _ _ _ _ _ _ _ _ (by omega)];refine .inr ⟨_,rfl,⟨hws,?_⟩,by simp only [zag];omega,?_⟩
    ·have:=zbm List.length he;simp only [zdx,zbz] at this;simp only [zai];omega
    ·rw [he];simp
   | some w =>
    rw [Wl] at he;rw [zab (show (yr (some w)).2=true from rfl),af (by simp only [zag,zbc];omega),key _ _ _ _ _ _ _ _ _ _ _ _ _ (by simp only [zai,zag,zbc];omega)];refine .inr ⟨_,rfl,⟨hws,?_⟩,by simp only [zag];omega,?_⟩
    ·have:=zbm List.length he;simp only [zdo,zai,zag,zbc] at this;simp only [zai,zag,zbc];omega
    ·rw [he];simp [yr]
def r5 (s:Int):Int->List Head->Int
 | k,[]=>k
 | k,h::t=>r5 s (if h.source=s then h.number+1 else k) t
def Wm (h:Head):Prop:=-9223372036854775808<=h.number/\h.number<=9223372036854775806
theorem SD (l:List Head) (n:Nat) (s:Int) (hn:n<=l.length) (hl:l.length<=100000) (ze:∀ h,h∈l.take n->Wm h):qw l (n:Int) s=some (r5 s 1 (l.take n)):=by
 unfold qw;have e9:(l.take n).length=n:=by rw [zay];omega
 refine bC (l.take n) (λst:Int×Int=>st.2) (λst t=>some (r5 s st.1 t)) (λst t=>∀ h,h∈t->Wm h) (by omega) ?_ ?_ (s:=((1:Int),(0:Int))) rfl ze
 ·rintro ⟨k,i⟩ _ hi;simp only at hi ⊢;unfold qZ;rw [zaa (by simp only [zah];omega)];exact ⟨_,rfl,rfl⟩
 ·rintro ⟨k,i⟩ h t ht l8 jZ hx hlen;simp only at ht l8 jZ hx hlen ⊢;have jL:nth l i.toNat=h:=by
   rw [←hx,r9 (by omega),r9 (by omega),List.getElem_take]
  have:=ht h (zao ..);unfold Wm at this;unfold qZ;rw [zab (by simp only [zah];omega),af (by omega),jL];by_cases hs:h.source=s
  ·rw [zab (by simpa using hs),af (by omega),af (by omega),af (by omega)];refine .inr ⟨_,rfl,λx hx=>ht x (zal _ hx),rfl,?_⟩;simp only [r5,hs,zcf]
  ·rw [zaa (by simpa using hs),af (by omega)];refine .inr ⟨_,rfl,λx hx=>ht x (zal _ hx),rfl,?_⟩;simp only [r5,hs,zbw]
def GQ (h:Head):Prop:=(1<=h.source/\h.source<=99)/\(1<=h.number/\h.number<=999999999)/\(1<=h.format/\h.format<=3)/\(0<=h.count/\h.count<=4096)
instance (h:Head):Decidable (GQ h):=by unfold GQ;infer_instance
def QV:List Head->List Head->Bool
 | _,[]=>true
 | d,h::t=>decide (GQ h/\h.number=r5 h.source 1 d) && QV (d++[h]) t
theorem Nq {h:Head} (o:GQ h):Wm h:=by unfold GQ at o;unfold Wm;omega
theorem IZ:∀ {d l:List Head},QV d l=true->∀ h,h∈l->GQ h
 | _,[],_,h,hm=>by cases hm
 | d,x::l,hb,h,hm=>by
  simp only [QV,zar,zah] at hb;rcases zav.1 hm with rfl|hm
  ·exact hb.1.1
  ·exact IZ hb.2 h hm
theorem QW (v:aH) (hl:v.aT.length<=100000):rD v=some (QV [] v.aT):=by
 unfold rD;have:=bC v.aT (step:=λs=>mq v s) (λs:Int=>s) (λs t=>some (QV (v.aT.take s.toNat) t)) (λs t=>∀ h,h∈v.aT.take s.toNat->GQ h) (by omega) (s:=0) ?_ ?_ rfl (by simp)
 ·exact this
 ·intro i _ hi;unfold mq;rw [zaa (by simp only [zah];omega)];exact ⟨_,rfl,rfl⟩
 ·intro i h t ht l8 jZ hx hlen;unfold mq;rw [zab (by simpa using jZ),af ⟨l8,jZ⟩,hx];by_cases h1:(1<=h.source/\h.source<=99)/\(1<=h.number/\h.number<=999999999)
  ·have e1:((((decide (h.source<1)) || (decide (h.source > 99))) || (decide (h.number<1))) || (decide (h.number > 999999999)))=false:=by simp;omega
   have hn:qw v.aT i h.source=some (r5 h.source 1 (v.aT.take i.toNat)):=by
    have:=SD v.aT i.toNat h.source (by omega) hl (λx hx=>Nq (ht x hx))
    rwa [show ((i.toNat:Nat):Int)=i from by omega] at this
   simp only [e1,zcs,ct,zcf,hn,zac,zcv];by_cases h2:GQ h/\h.number=r5 h.source 1 (v.aT.take i.toNat)
   ·have h3:=h2.1;unfold GQ at h3;rw [zaa (by simp [h2.2.symm];omega),af (by omega)];refine .inr ⟨_,rfl,?_,rfl,?_⟩
    ·rw [show (i+1).toNat=i.toNat+1 from by omega,rq (by omega),hx];intro y hy;rcases zbi.1 hy with hy|hy
     ·exact ht y hy
     ·simp at hy;subst hy;exact h2.1
    ·rw [show (i+1).toNat=i.toNat+1 from by omega,rq (by omega),hx];simp only [QV,zdn h2,zcr]
   ·rw [zab (by
     unfold GQ at h2;simp only [zbr,bne_iff_ne,zah];by_cases hq:h.number=r5 h.source 1 (v.aT.take i.toNat)
     ·have:¬((1<=h.format/\h.format<=3)/\(0<=h.count/\h.count<=4096)):=λhh=>h2 ⟨⟨h1.1,h1.2,hh.1,hh.2⟩,hq⟩
      omega
     ·exact .inl (.inl (.inl (.inl hq))))]
    exact .inl ⟨_,rfl,by simp only [QV,zdr h2,zcx]⟩
  ·have e1:((((decide (h.source<1)) || (decide (h.source > 99))) || (decide (h.number<1))) || (decide (h.number > 999999999)))=true:=by simp;omega
   simp only [e1,zck,ct,zbf,zbw,zac,zer,zcf];refine .inl ⟨_,rfl,?_⟩;have:¬(GQ h/\h.number=r5 h.source 1 (v.aT.take i.toNat)):=λhh=>h1 ⟨hh.1.1,hh.1.2.1⟩
   simp only [QV,zdr this,zcx]
def Eo (r:Range):Prop:=(1<=r.source/\r.source<=99)/\1<=r.from_/\r.from_<=r.lz/\r.lz<=999999999
instance (r:Range):Decidable (Eo r):=by unfold Eo;infer_instance
def RF (p r:Range):Prop:=p.source<r.source∨(p.source=r.source/\p.lz+1<r.from_)
instance (p r:Range):Decidable (RF p r):=by unfold RF;infer_instance
def yw:Option Range->List Range->Bool
 | _,[]=>true
 | none,r::t=>decide (Eo r) && yw (some r) t
 | some p,r::t=>decide (Eo r/\RF p r) && yw (some r) t
structure Can (l:List Range):Prop where
 ok:∀ r,r∈l->Eo r
 TK:l.Pairwise RF
theorem yx:∀ (o:Option Range) (t:List Range),(∀ p,o=some p->Eo p)->(yw o t=true↔(∀ r,r∈t->Eo r)/\(o.toList++t).Pairwise RF)
 | o,[],_=>by cases o <;> simp [yw]
 | none,r::t,_=>by
  simp only [yw,zar,zah,zdx,zbz];constructor
  ·rintro ⟨h1,h2⟩;have ih:=(yx (some r) t (λp hp=>by cases hp;exact h1)).1 h2;simp only [zdo,zdp] at ih;refine ⟨λx hx=>?_,ih.2⟩;rcases zav.1 hx with rfl|hx
   ·exact h1
   ·exact ih.1 x hx
  ·rintro ⟨h1,h2⟩;refine ⟨h1 r (zao ..),(yx (some r) t (λp hp=>by cases hp;exact h1 r (zao ..))).2 ⟨λx hx=>h1 x (zal _ hx),by simpa using h2⟩⟩
 | some p,r::t,hp=>by
  simp only [yw,zar,zah,zdo,zdp];constructor
  ·rintro ⟨⟨h1,h3⟩,h2⟩;have ih:=(yx (some r) t (λp hp=>by cases hp;exact h1)).1 h2;simp only [zdo,zdp] at ih;refine ⟨λx hx=>?_,zbn.2 ⟨λx hx=>?_,ih.2⟩⟩
   ·rcases zav.1 hx with rfl|hx
    ·exact h1
    ·exact ih.1 x hx
   ·rcases zav.1 hx with rfl|hx
    ·exact h3
    ·have h4:=(zbn.1 ih.2).1 x hx;unfold Eo at h1;unfold RF at h3 h4 ⊢;omega
  ·rintro ⟨h1,h2⟩;have h3:=zbn.1 h2;have hr:=h1 r (zao ..);exact ⟨⟨hr,h3.1 r (zao ..)⟩,(yx (some r) t (λp hp=>by cases hp;exact hr)).2 ⟨λx hx=>h1 x (zal _ hx),by simpa using h3.2⟩⟩
theorem Nr (l:List Range):yw none l=true↔Can l:=by
 rw [yx none l (λp hp=>by cases hp)];simp only [zdx,zbz];exact ⟨λh=>⟨h.1,h.2⟩,λh=>⟨h.ok,h.TK⟩⟩
theorem Hw (s n:Int):((((decide (s>=1)) && (decide (s<=99))) && (decide (n>=1))) && (decide (n<=999999999)))=decide ((1<=s/\s<=99)/\1<=n/\n<=999999999):=by
 rw [zbu,zcy];simp;omega
theorem Wn (l:List Range) (hl:l.length<=100000):rE l=some (yw none l):=by
 unfold rE;have:=bC l (step:=λs=>mr l s) (λs:Int=>s) (λs t=>some (yw (if s=0 then none else some (nth l (s-1).toNat)) t)) (λs t=>s≠0->Eo (nth l (s-1).toNat)) (by omega) (s:=0) ?_ ?_ rfl (by simp)
 ·exact this
 ·intro i _ hi;unfold mr;rw [zaa (by simp only [zah];omega)];exact ⟨_,rfl,by simp [yw]⟩
 ·intro i r t hpv l8 jZ hx hlen;unfold mr;rw [zab (by simpa using jZ),af ⟨l8,jZ⟩,hx];simp only [jb,Hw,zac,Bool.not_not,iq];have e1:(i+1=0)=False:=by simp;omega
  have e2:(i+1-1).toNat=i.toNat:=by omega
  by_cases hr:Eo r
  ·have UW:=hr;unfold Eo at UW;have d1:decide ((1<=r.source/\r.source<=99)/\1<=r.from_/\r.from_<=999999999)=true:=by simp;omega
   have d2:decide ((1<=r.source/\r.source<=99)/\1<=r.lz/\r.lz<=999999999)=true:=by simp;omega
   simp only [d1,d2,zcf,zck,zcv];rw [zaa (by simp;omega)];by_cases h0:i=0
   ·subst h0;rw [af (by simp),af (by simp),af (by simp),af (by simp),af (by simp),af (by simp),af (by simp),zaa (by simp),af (by omega)];refine .inr ⟨_,rfl,λ_=>?_,rfl,?_⟩
    ·rw [e2,hx];exact hr
    ·simp only [e1,zbw,e2,hx,zcf];simp only [yw,zdn hr,zcr]
   ·have hp:=hpv h0;have hgt:i > 0:=by omega
    rw [zaa h0];generalize nth l (i-1).toNat=p at hp ⊢;have NZ:=hp;unfold Eo at NZ;simp only [hgt,decide_true,zcr];rw [af (λ_=>by omega),af (λ_=>by omega),af (λ_=>by omega),af (λ_=>by omega),af (λ_=>by omega),af (λ_=>by omega),af (λ_=>by omega)];by_cases cZ:RF p r
    ·have kQ:=cZ;unfold RF at kQ;rw [zaa (by simp;omega),af (by omega)];refine .inr ⟨_,rfl,λ_=>?_,rfl,?_⟩
     ·rw [e2,hx];exact hr
     ·simp only [e1,zbw,e2,hx];simp only [yw,zdn (And.intro hr cZ),zcr]
    ·have kQ:=cZ;unfold RF at kQ;rw [zab (by simp;omega)];exact .inl ⟨_,rfl,by simp only [yw,zdr (λh:Eo r/\RF p r=>cZ h.2),zcx]⟩
  ·have UW:=hr;unfold Eo at UW;rw [zab (by
    by_cases d1:(1<=r.source/\r.source<=99)/\1<=r.from_/\r.from_<=999999999
    ·by_cases d2:(1<=r.source/\r.source<=99)/\1<=r.lz/\r.lz<=999999999
     ·simp only [zdn d1,zdn d2,zcf,zck,zcv,zah];omega
     ·simp only [zdn d1,zdr d2,zcf,zck,zcs,zcv,zer]
    ·simp only [zdr d1,zcs,zer])]
   refine .inl ⟨_,rfl,?_⟩;by_cases h0:i=0
   ·simp [h0,yw,hr]
   ·simp [h0,yw,hr]
def hasB (l:List Range) (s n:Int):Bool:=l.any λr=>decide (r.source=s/\r.from_<=n/\n<=r.lz)
def RG (s n:Int):Bool:=decide ((1<=s/\s<=99)/\1<=n/\n<=999999999)
theorem QX (l:List Range) (s n:Int) (hl:l.length<=100000):tr l s n=some (hasB l s n && RG s n):=by
 unfold tr;refine bC l (λst:Int=>st) (λst t=>some (hasB t s n && RG s n)) (λst t=>True) (by omega) ?_ ?_ rfl trivial
 ·intro i _ hi;unfold s8;rw [zaa (by simp only [zah];omega)];exact ⟨_,rfl,by simp [hasB]⟩
 ·intro i r t _ l8 jZ hx hlen;unfold s8;rw [zab (by simpa using jZ),af ⟨l8,jZ⟩,af (λ_=>⟨l8,jZ⟩),af (λ_=>⟨l8,jZ⟩),hx];by_cases h:r.source=s/\r.from_<=n/\n<=r.lz
  ·rw [zab (by simp [h.1,h.2.1,h.2.2])];simp only [jb,Hw,zac];exact .inl ⟨_,rfl,by simp [hasB,h,RG]⟩
  ·rw [zaa (by simp only [zar,zee,zah];exact λhh=>h ⟨hh.1.1,hh.1.2,hh.2⟩),af (by omega)]
   refine .inr ⟨_,rfl,trivial,rfl,?_⟩;unfold hasB;rw [zdz,zdr h,zcv]
def FO (s:Int):List Range->Int
 | []=>0
 | r::t=>(if r.source=s then r.lz-r.from_+1 else 0)+FO s t
def C5 (s:Int):List Head->Int
 | []=>0
 | h::t=>(if h.source=s then h.count else 0)+C5 s t
def Wo (l:List Range) (hs:List Head):Nat->Int->Bool
 | 0,_=>true
 | m+1,s=>decide (FO s l<=C5 s hs) && Wo l hs m (s+1)
theorem YW (v:aH) (s n:Int) (hs:1<=s/\s<=99) (hh:∀ h,h∈v.aT->GQ h) (hl:v.aT.length<=100000) (hn:0<=n/\n<=100000000000000):iN v s n=some (if n-C5 s v.aT > 0 then .inr false else .inl (s+1)):=by
 unfold iN;refine bC v.aT (λst:Int×Int=>st.2) (λst t=>(some (if st.1-C5 s t > 0 then Sum.inr false else Sum.inl (s+1)):Option (Int ⊕ Bool))) (λst t=>(-5000*st.2<=st.1/\st.1<=100000000000000)/\∀ h,h∈t->GQ h) (by omega) ?_ ?_ (s:=(n,(0:Int))) rfl ⟨by simp only;omega,hh⟩
 ·rintro ⟨k,i⟩ ⟨hb,_⟩ hi;simp only at hb hi ⊢;unfold nj ku;rw [zaa (by simp only [zah];omega)];simp only [C5,Int.sub_zero,zah];by_cases h:k > 0
  ·rw [zab h,zab h];exact ⟨_,rfl,rfl⟩
  ·rw [zaa h,zaa h,af (by omega)];exact ⟨_,rfl,rfl⟩
 ·rintro ⟨k,i⟩ h t ⟨hb,ht⟩ l8 jZ hx hlen;simp only at hb ht l8 jZ hx hlen ⊢;have ho:=ht h (zao ..);unfold GQ at ho;unfold nj;rw [zab (by simpa using jZ),af ⟨l8,jZ⟩,hx];by_cases he:h.source=s
  ·rw [zab (by simpa using he),af ⟨l8,jZ⟩,af (by omega),af (by omega)];refine .inr ⟨_,rfl,⟨by simp only;omega,λx hx=>ht x (zal _ hx)⟩,rfl,?_⟩
   simp only [C5,he,zcf];rw [show k-h.count-C5 s t=k-(h.count+C5 s t) from by omega]
  ·rw [zaa (by simpa using he),af (by omega)];refine .inr ⟨_,rfl,⟨by simp only;omega,λx hx=>ht x (zal _ hx)⟩,rfl,?_⟩
   simp only [C5,he,zbw,Int.zero_add]
theorem YX (v:aH) (s:Int) (hs:1<=s/\s<=99) (hh:∀ h,h∈v.aT->GQ h) (hr:∀ r,r∈v.seen->Eo r) (hl:v.aT.length<=100000) (Ba:v.seen.length<=10000):loop (λst:Int×Int=>gF v s st.1 st.2) (0,0)=some (if FO s v.seen-C5 s v.aT > 0 then .inr false else .inl (s+1)):=by
 refine (bC v.seen (λst:Int×Int=>st.2) (λst t=>(some (if (st.1+FO s t) - C5 s v.aT > 0 then Sum.inr false else Sum.inl (s+1)):Option (Int ⊕ Bool))) (λst t=>(0<=st.1/\st.1<=st.2*1000000000)/\∀ r,r∈t->Eo r) (by omega) ?_ ?_ (s:=((0:Int),(0:Int))) rfl ⟨by simp,hr⟩).trans (by simp)
 ·rintro ⟨k,i⟩ ⟨hb,_⟩ hi;simp only at hb hi ⊢;unfold gF;rw [zaa (by simp only [zah];omega),YW v s k hs hh hl (by omega)];exact ⟨_,rfl,by simp [FO]⟩
 ·rintro ⟨k,i⟩ r t ⟨hb,ht⟩ l8 jZ hx hlen;simp only at hb ht l8 jZ hx hlen ⊢;have ho:=ht r (zao ..);unfold Eo at ho;unfold gF;rw [zab (by simpa using jZ),af ⟨l8,jZ⟩,hx];by_cases he:r.source=s
  ·rw [zab (by simpa using he),af ⟨l8,jZ⟩,af (by omega),af ⟨l8,jZ⟩,af (by omega),af (by omega),af (by omega)];refine .inr ⟨_,rfl,⟨by simp only;omega,λx hx=>ht x (zal _ hx)⟩,rfl,?_⟩
   simp only [FO,he,zcf];rw [show k+r.lz-r.from_+1+FO s t=k+(r.lz-r.from_+1+FO s t) from by omega]
  ·rw [zaa (by simpa using he),af (by omega)];refine .inr ⟨_,rfl,⟨by simp only;omega,λx hx=>ht x (zal _ hx)⟩,rfl,?_⟩
   simp only [FO,he,zbw,Int.zero_add]
theorem Ms (v:aH) (hh:∀ h,h∈v.aT->GQ h) (hr:∀ r,r∈v.seen->Eo r) (hl:v.aT.length<=100000) (Ba:v.seen.length<=10000):n9 v=some (Wo v.seen v.aT 99 1):=by
 unfold n9;refine mU (λs:Int=>some (Wo v.seen v.aT (100-s).toNat s)) (λs=>1<=s/\s<=100) (λs=>(100-s).toNat) ?_ (s:=1) (by decide) (by decide);rintro s ⟨h1,h2⟩;unfold qD;by_cases hs:s<=99
 ·rw [zab (by simpa using hs),YX v s ⟨h1,hs⟩ hh hr hl Ba,show (100-s).toNat=(100-(s+1)).toNat+1 from by omega];simp only [Wo];by_cases hc:FO s v.seen-C5 s v.aT > 0
  ·rw [zab hc];exact .inl ⟨_,rfl,by rw [zdr (by omega),zcx]⟩
  ·rw [zaa hc];exact .inr ⟨s+1,rfl,by omega,by omega,by rw [zdn (show FO s v.seen<=C5 s v.aT by omega),zcr]⟩
 ·rw [zaa (by simpa using hs)];have:s=100:=by omega
  subst this;exact .inl ⟨_,rfl,rfl⟩
def AO (a b:aa):Bool:=decide (a.source=b.source) && decide (a.aZ=b.aZ)
def YY (l:List Range):List aa->List aa->Bool
 | _,[]=>true
 | d,r::t=>(hasB l r.source r.aZ && RG r.source r.aZ) && !(d.any λx=>AO x r) && YY l (d++[r]) t
def Xa (v:aH):Bool:=QV [] v.aT && yw none v.seen && (zB none v.open_ && Sy v.open_ v.open_) && Wo v.seen v.aT 99 1 && YY v.seen [] v.open_
structure SmI (v:aH):Prop where
 seen:v.seen.length<=1000
 aT:v.aT.length<=1000
 opens:v.open_.length<=1000
 sm:∀ r,r∈v.open_->Sm r
theorem Wp (v:aH) (i:Int) (l8:0<=i) (jZ:i<(v.open_.length:Int)) (hl:v.open_.length<=1000):loop (λs=>mB v i s) 0=some (if ((v.open_.take i.toNat).any λx=>AO x (nth v.open_ i.toNat))=true then .inr false else .inl (i+1)):=by
 have e9:(v.open_.take i.toNat).length=i.toNat:=by rw [zay];omega
 refine bC (v.open_.take i.toNat) (λs:Int=>s) (λs t=>(some (if (t.any λx=>AO x (nth v.open_ i.toNat))=true then Sum.inr false else Sum.inl (i+1)):Option (Int ⊕ Bool))) (λs t=>True) (by omega) ?_ ?_ rfl trivial
 ·intro k _ hk;unfold mB;rw [zaa (by simp only [zah];omega),af (by omega)];exact ⟨_,rfl,rfl⟩
 ·intro k x t _ Oy cD hx hlen;have jL:nth v.open_ k.toNat=x:=by rw [←hx,r9 (by omega),r9 (by omega),List.getElem_take]
  unfold mB;rw [zab (by simp only [zah];omega),af (by omega),af (λ_=>by omega),jL];rw [zdz];by_cases h:AO x (nth v.open_ i.toNat)=true
  ·have h':=h;simp only [AO,zar,zah] at h';rw [zab (by simp [h'.1,h'.2]),h,zer];exact .inl ⟨_,rfl,rfl⟩
  ·have h':=h;simp only [AO,zar,zah] at h';rw [zaa (by simpa using h'),af (by omega),zff.2 h,zcv];exact .inr ⟨_,rfl,trivial,rfl,rfl⟩
theorem YZ (v:aH) (hs:SmI v):rG v=some (Xa v):=by
 unfold rG Xa;rw [QW v (by have:=hs.aT;omega)];simp only [zac,Bool.not_not];cases h1:QV [] v.aT with
 | false=>simp [ct]
 | true =>
  have hh:=IZ h1;simp only [ct,zcf];rw [Wn v.seen (by have:=hs.seen;omega)];simp only [zac];cases h2:yw none v.seen with
  | false=>simp
  | true =>
   have hc:=(Nr _).1 h2;simp only [zck,zfs,zcs,zcf];rw [Sz v.open_ hs.sm hs.opens];simp only [zac];cases h3:(zB none v.open_ && Sy v.open_ v.open_) with
   | false=>simp
   | true =>
    simp only [zck,zfs,zcs,zcf];rw [Ms v hh hc.ok (by have:=hs.aT;omega) (by have:=hs.seen;omega)];simp only [zac];cases h4:Wo v.seen v.aT 99 1 with
    | false=>simp
    | true =>
     simp only [zck,zfs,zbf,zbw,zcr];have hol:=hs.opens;refine (bC v.open_ (step:=λs=>mC v s) (λs:Int=>s) (λs t=>some (YY v.seen (v.open_.take s.toNat) t)) (λs t=>True) (by omega) (s:=0) ?_ ?_ rfl trivial)
     ·intro i _ hi;unfold mC;rw [zaa (by simp only [zah];omega)];exact ⟨_,rfl,rfl⟩
     ·intro i r t _ l8 jZ hx hlen;unfold mC;rw [zab (by simpa using jZ),af ⟨l8,jZ⟩,hx,QX v.seen r.source r.aZ (by have:=hs.seen;omega)];simp only [zac,YY];cases h5:(hasB v.seen r.source r.aZ && RG r.source r.aZ) with
      | false =>
       rw [zab (by rfl)];exact .inl ⟨_,rfl,by simp⟩
      | true =>
       rw [zaa (by simp),Wp v i l8 jZ hol,hx];cases h6:((v.open_.take i.toNat).any λx=>AO x r) with
       | true =>
        rw [zab rfl];exact .inl ⟨_,rfl,by simp⟩
       | false =>
        rw [zaa (by simp)];refine .inr ⟨_,rfl,trivial,rfl,?_⟩;rw [show (i+1).toNat=i.toNat+1 from by omega,rq (by omega),hx];simp
structure yz (v:aH):Prop where
 aT:QV [] v.aT=true
 can:Can v.seen
 opn:Zs v.open_
 Gc:Wo v.seen v.aT 99 1=true
 ids:YY v.seen [] v.open_=true
theorem Ns (v:aH):Xa v=true↔yz v:=by
 unfold Xa;simp only [zar];rw [Nr];constructor
 ·rintro ⟨⟨⟨⟨h1,h2⟩,h3⟩,h4⟩,h5⟩;exact ⟨h1,h2,(No _).1 (by simpa using h3),h4,h5⟩
 ·rintro ⟨h1,h2,h3,h4,h5⟩;exact ⟨⟨⟨⟨h1,h2⟩,by simpa using (No _).2 h3⟩,h4⟩,h5⟩
theorem Head.xc (h:Head):eI h.bR h.bR=true:=by simp [Head.bR,eI,LJ]
theorem Range.xc (h:Range):eI h.bR h.bR=true:=by simp [Range.bR,eI,LJ]
theorem ak.xc (h:ak):eI h.bR h.bR=true:=by simp [ak.bR,eI,LJ]
theorem KQ (a:List aa) (hl:a.length<=10000):qI a a=some true:=by
 unfold qI;rw [zaa (by simp),ur a (λ_=>true) true true (by omega) (λi h0 h1=>?_) (λi hi=>?_)]
 ·simp
 ·unfold rh;rw [zab (by simpa using h1),af (by omega),af (by omega),zaa (by rw [aa.xc];simp),af (by omega)];rfl
 ·unfold rh;rw [zaa (by simp;omega)]
theorem QY (a:List Range) (hl:a.length<=10000):tZ a a=some true:=by
 unfold tZ;rw [zaa (by simp),ur a (λ_=>true) true true (by omega) (λi h0 h1=>?_) (λi hi=>?_)]
 ·simp
 ·unfold rf;rw [zab (by simpa using h1),af (by omega),af (by omega),zaa (by rw [Range.xc];simp),af (by omega)];rfl
 ·unfold rf;rw [zaa (by simp;omega)]
theorem QZ (v:aH) (h1:v.seen.length<=10000) (h2:v.open_.length<=10000) (h3:v.aT.length<=10000):ua v v=some true:=by
 unfold ua;rw [zaa (by simp),ur v.aT (λ_=>true) true true (by omega) (λi h0 h1=>?_) (λi hi=>?_)]
 ·simp
 ·unfold ri;rw [zab (by simpa using h1),af (by omega),af (by omega),zaa (by rw [Head.xc];simp),af (by omega)];rfl
 ·unfold ri oi;rw [zaa (by simp;omega),QY _ h1,KQ _ h2];rfl
theorem KR (b:Int):∀ (m:Nat) (l:List aa),(jJ b m l).1.length+(jJ b m l).2.length<=l.length
 | 0,l=>by simp [jJ]
 | m+1,[]=>by simp [jJ]
 | m+1,x::l=>by
  have h1:=KR b m (jn x (x::l));have h2:=zbm List.length (pZ x (x::l));have h3:=FM (dJ x (x::l));rw [zai] at h2;unfold jJ;split <;> simp only [zai] <;> omega
theorem FP (s:Int):∀ (k:Int) (l:List Head) (h:Head),r5 s k (l++[h])=if h.source=s then h.number+1 else r5 s k l
 | k,[],h=>by simp only [zbz,r5]
 | k,x::l,h=>by simp only [List.cons_append,r5];exact FP s _ l h
theorem Wq (v:aH) (s:Int) (hl:v.aT.length<=100000) (ze:∀ h,h∈v.aT->Wm h):iG v s=some (if 1<=s/\s<=99 then r5 s 1 v.aT else 0):=by
 unfold iG;by_cases hs:1<=s/\s<=99
 ·rw [zaa (by simp;omega),zab hs,af (by omega)];refine (mU (λi:Int=>some (r5 s 1 (v.aT.take (i+1).toNat))) (λi=>-1<=i/\i<(v.aT.length:Int)) (λi=>(i+1).toNat) ?_ (s:=(v.aT.length:Int) - 1) (by omega) (by omega)).trans ?_
  ·rintro i ⟨h1,h2⟩;unfold qn;by_cases h0:i>=0
   ·have hm:nth v.aT i.toNat∈v.aT:=p7 (by omega);have ho:=ze _ hm;unfold Wm at ho;rw [zab (by simpa using h0),af (by omega),show (i+1).toNat=i.toNat+1 from by omega,rq (by omega),FP];by_cases he:(nth v.aT i.toNat).source=s
    ·rw [zab (by simpa using he),af (by omega),af (by omega),zab he];exact .inl ⟨_,rfl,rfl⟩
    ·rw [zaa (by simpa using he),af (by omega),zaa he];exact .inr ⟨i-1,rfl,by omega,by omega,by rw [show i-1+1=i from by omega]⟩
   ·rw [zaa (by simpa using h0)];have:i=-1:=by omega
    subst this;exact .inl ⟨_,rfl,rfl⟩
  ·rw [show ((v.aT.length:Int) - 1+1).toNat=v.aT.length from by omega,List.take_length]
 ·rw [zab (by simp;omega),zaa hs]
theorem Head.eq_iff (a b:Head):eI a.bR b.bR=true↔a=b:=by cases a;cases b;simp [Head.bR,eI,LJ]
theorem aa.eq_iff (a b:aa):eI a.bR b.bR=true↔a=b:=by cases a;cases b;simp [aa.bR,eI,LJ]
theorem KS {S R:Type} {step:S->Option (S ⊕ R)} {n:Nat} {s s':S} (h:step s=some (.inl s')):iter step (n+1) s=iter step n s':=by simp [iter,h]
theorem wj {S R:Type} {step:S->Option (S ⊕ R)} {n:Nat} {s:S} {r:R} (h:step s=some (.inr r)):iter step (n+1) s=some r:=by simp [iter,h]
def PL (s n:Int) (r:Range):Prop:=r.source > s∨(r.source=s/\r.lz>=n)
instance (s n:Int) (r:Range):Decidable (PL s n r):=by unfold PL;infer_instance
instance:DecidableEq aa:=λa b=>decidable_of_iff _ (aa.eq_iff a b)
def TL (s n:Int) (r:Range):Prop:=r.source=s/\r.lz+1=n
def TR (s n:Int) (r:Range):Prop:=r.source=s/\r.from_-1=n
instance (s n:Int) (r:Range):Decidable (TL s n r):=by unfold TL;infer_instance
instance (s n:Int) (r:Range):Decidable (TR s n r):=by unfold TR;infer_instance
theorem Can.tail {r:Range} {l:List Range} (h:Can (r::l)):Can l:=⟨λx hx=>h.ok x (zal _ hx),(zbn.1 h.TK).2⟩
def inW (w:gC) (r:aa):Prop:=¬(r.start<w.ib∨r.start > w.nI)
instance (w:gC) (r:aa):Decidable (inW w r):=by unfold inW;infer_instance
def NS (a b:aa):Prop:=¬(a.source=b.source/\a.aZ=b.aZ)
def GR (v:aH) (b:Int):aH×List aa:=(⟨v.seen,(jJ b v.open_.length v.open_).2,v.aT⟩,(jJ b v.open_.length v.open_).1)
theorem SE (v:aH) (b:Int) (hg:yz v) (h1:v.seen.length<=600) (h2:v.open_.length<=600) (h3:v.aT.length<=600):mP v b=some (GR v b):=by
 unfold mP oA iz dX kS;rw [af (by omega),af (by omega),af (by omega)];simp only [zac];rw [QU v.open_ b hg.opn.wt (by omega)];rfl
theorem Q0 (v:aH) (b:Int) (hg:yz v) (h1:v.seen.length<=600) (h2:v.open_.length<=600) (h3:v.aT.length<=600):rT v b=some (GR v b):=by
 unfold rT;rw [ON v.open_ b hg.opn.wt.sm (by omega)];simp only [zac];rw [af (by omega),af (by omega)];rfl
structure Y0 (V:aH) (i:Int):Prop where
 OO:yz V
 seen:(V.seen.length:Int)<=40*i
 aT:(V.aT.length:Int)<=i
 opens:(V.open_.length:Int)<=40*i
theorem Y0.next {V:aH} {i:Int} (h:Y0 V i) (hi:i<=12) (s:Int):iG V s=some (if 1<=s/\s<=99 then r5 s 1 V.aT else 0) :=
 Wq V s (by have:=h.aT;omega) (λx hx=>Nq (IZ h.OO.aT x hx))
def wk {α:Type} (lt:α->α->Bool) (x:α):List α->List α
 | []=>[x]
 | y::t=>if lt y x=true then y::wk lt x t else x::y::t
theorem BZ {α:Type} (lt:α->α->Bool) (x:α):∀ (l:List α),(wk lt x l).length=l.length+1
 | []=>rfl
 | y::t=>by
  unfold wk;split
  ·rw [zag,BZ lt x t,zag]
  ·rfl
theorem Ep {α:Type} (lt:α->α->Bool) (x:α):∀ (l:List α) (z:α),z∈wk lt x l↔z=x∨z∈l
 | [],z=>by simp [wk]
 | y::t,z=>by
  unfold wk;split
  ·rw [zav,Ep lt x t z,zav];constructor
   ·rintro (h|h|h)
    ·exact .inr (.inl h)
    ·exact .inl h
    ·exact .inr (.inr h)
   ·rintro (h|h|h)
    ·exact .inr (.inl h)
    ·exact .inl h
    ·exact .inr (.inr h)
  ·rw [zav]
theorem FQ {α:Type} [Inhabited α] {step:Int->Option (Int ⊕ List α)} (l:List α) (x:α) (lt:α->α->Bool) (hl:l.length<=100000)
  (h:∀ i:Int,0<=i->i<=(l.length:Int)->step i=if i<(l.length:Int)/\lt (nth l i.toNat) x=true then some (.inl (i+1)) else some (.inr ((l.take i.toNat++[x])++l.drop i.toNat))):loop step 0=some (wk lt x l):=by
 have:=bC (step:=step) l (λi:Int=>i) (λi t=>some (l.take i.toNat++wk lt x t)) (λi t=>l.drop i.toNat=t/\0<=i) (by omega) ?_ ?_ (s:=0) rfl ⟨by simp,by omega⟩
 ·rw [this];simp
 ·rintro i ⟨h1,h2⟩ h3;refine ⟨(l.take i.toNat++[x])++l.drop i.toNat,?_,?_⟩
  ·rw [h i h2 (by omega),zaa (by omega)]
  ·rw [h1];simp [wk]
 ·rintro i a t ⟨h1,h2⟩ h3 h4 h5 h6;by_cases cZ:lt a x=true
  ·refine .inr ⟨i+1,?_,⟨?_,by omega⟩,rfl,?_⟩
   ·rw [h i h2 (by omega),zab ⟨h4,by rw [h5];exact cZ⟩]
   ·rw [show (i+1).toNat=i.toNat+1 from by omega,←List.drop_drop,h1];rfl
   ·rw [show (i+1).toNat=i.toNat+1 from by omega,rq (by omega),h5];simp [wk,cZ]
  ·refine .inl ⟨(l.take i.toNat++[x])++l.drop i.toNat,?_,?_⟩
   ·rw [h i h2 (by omega),zaa (by rw [h5];exact λk=>cZ k.2)]
   ·rw [h1];simp [wk,cZ]
def GS (a b:Int):Bool:=decide (a<b)
theorem KT (l:List Int) (x:Int) (hl:l.length<=100000):fF l x=some (wk GS x l):=by
 unfold fF;refine FQ l x GS hl λi h0 h1=>?_
 unfold kr;rw [af (λk=>⟨h0,by simpa using k⟩)];have hj:eM l x i=some ((l.take i.toNat++[x])++l.drop i.toNat):=by
  unfold eM;have e1:(l.take i.toNat).length<=l.length:=zft ..;have e2:(l.drop i.toNat).length<=l.length:=by rw [zbh];omega
  rw [af ⟨h0,h1⟩,af (by omega),af (by rw [zan];omega),af ⟨h0,h1⟩,af (by rw [zai,zan];omega)]
 rw [hj];by_cases hc:i<(l.length:Int)/\GS (nth l i.toNat) x=true
 ·rw [zab hc,zab (by simp only [zar,zah];exact ⟨hc.1,by simpa [GS] using hc.2⟩),af ⟨by omega,by omega⟩]
 ·rw [zaa hc,zaa (λk=>hc (by simp only [zar,zah] at k;exact ⟨k.1,by simpa [GS] using k.2⟩))];rfl
theorem KU (l:List (List UInt8)) (x:List UInt8) (hl:l.length<=100000):eN l x=some (wk nH x l):=by
 unfold eN;refine FQ l x nH hl λi h0 h1=>?_
 unfold iW;rw [af (λk=>⟨h0,by simpa using k⟩)];have hj:dV l x i=some ((l.take i.toNat++[x])++l.drop i.toNat):=by
  unfold dV;have e1:(l.take i.toNat).length<=l.length:=zft ..;have e2:(l.drop i.toNat).length<=l.length:=by rw [zbh];omega
  rw [af ⟨h0,h1⟩,af (by omega),af (by rw [zan];omega),af ⟨h0,h1⟩,af (by rw [zai,zan];omega)]
 rw [hj];by_cases hc:i<(l.length:Int)/\nH (nth l i.toNat) x=true
 ·rw [zab hc,zab (by simp only [zar,zah];exact hc),af ⟨by omega,by omega⟩]
 ·rw [zaa hc,zaa (λk=>hc (by simpa only [zar,zah] using k))];rfl
theorem Q1 (l:List (List UInt8)) (x:List UInt8) (hl:l.length<=100000):qF l x=some (wk nH x l):=by
 unfold qF;refine FQ l x nH hl λi h0 h1=>?_
 unfold vk;rw [af (λk=>⟨h0,by simpa using k⟩)];have hj:lJ l x i=some ((l.take i.toNat++[x])++l.drop i.toNat):=by
  unfold lJ;have e1:(l.take i.toNat).length<=l.length:=zft ..;have e2:(l.drop i.toNat).length<=l.length:=by rw [zbh];omega
  simp only [zbz,zbc,zbp];rw [af ⟨h0,h1⟩,af (by omega),af (by rw [zan];omega),af ⟨h0,h1⟩,af (by rw [zai,zan];omega)]
 rw [hj];by_cases hc:i<(l.length:Int)/\nH (nth l i.toNat) x=true
 ·rw [zab hc,zab (by simp only [zar,zah];exact hc),af ⟨by omega,by omega⟩]
 ·rw [zaa hc,zaa (λk=>hc (by simpa only [zar,zah] using k))];rfl
def GU (x:List UInt8) (l:List (List UInt8)):List (List UInt8):=l.filter (· != x)
theorem KV {step:List (List UInt8)×Int->Option ((List (List UInt8)×Int) ⊕ List (List UInt8))} (l:List (List UInt8)) (x:List UInt8) (hl:l.length<=100000)
  (h:∀ (o:List (List UInt8)) (i:Int),0<=i->i<=(l.length:Int)->(o.length:Int)<=i->step (o,i)=if i<(l.length:Int) then some (.inl (if (nth l i.toNat != x)=true then o++[nth l i.toNat] else o,i+1)) else some (.inr o)):loop step ([],0)=some (GU x l):=by
 have:=bC (step:=step) l (λs=>s.2) (λs t=>some (s.1++GU x t)) (λs t=>0<=s.2/\s.2<=(l.length:Int)/\(s.1.length:Int)<=s.2) (by omega) ?_ ?_ (s:=([],0)) rfl ⟨by simp,by simp,by simp⟩
 ·rw [this];simp
 ·rintro ⟨o,i⟩ ⟨h1,h2,h3⟩ h4;refine ⟨o,?_,?_⟩
  ·rw [h o i h1 h2 h3,zaa (by simp only at h4;omega)]
  ·simp [GU]
 ·rintro ⟨o,i⟩ a t ⟨h1,h2,h3⟩ h4 h5 h6 h7;simp only at h1 h2 h3 h4 h5 h6 h7;refine .inr ⟨(if (nth l i.toNat != x)=true then o++[nth l i.toNat] else o,i+1),?_,⟨by simp only;omega,by simp only;omega,?_⟩,rfl,?_⟩
  ·rw [h o i h1 h2 h3,zab h5]
  ·simp only;split
   ·rw [zai,zan];omega
   ·omega
  ·simp only;rw [h6];unfold GU;rw [zbo];split <;> simp
theorem KW (l:List (List UInt8)) (x:List UInt8) (hl:l.length<=100000):gV l x=some (GU x l):=by
 unfold gV;refine KV l x hl λo i h0 h1 h2=>?_
 unfold mh;by_cases hi:i<(l.length:Int)
 ·rw [zab (by simpa using hi),zab hi,af ⟨h0,hi⟩];split
  ·rw [af (by simp only [zan];omega),af ⟨by omega,by omega⟩]
  ·rw [af ⟨by omega,by omega⟩]
 ·rw [zaa (by simpa using hi),zaa hi]
theorem Hy (l:List (List UInt8)) (x:List UInt8) (hl:l.length<=100000):lK l x=some (GU x l):=by
 unfold lK;refine KV l x hl λo i h0 h1 h2=>?_
 unfold qG;by_cases hi:i<(l.length:Int)
 ·rw [zab (by simpa using hi),zab hi,af ⟨h0,hi⟩];split
  ·rw [af ⟨h0,hi⟩,af (by simp only [zan];omega),af ⟨by omega,by omega⟩]
  ·rw [af ⟨by omega,by omega⟩]
 ·rw [zaa (by simpa using hi),zaa hi]
theorem Nt (x:List UInt8) (l:List (List UInt8)):(GU x l).length<=l.length:=List.length_filter_le ..
abbrev W7:=(List Int)×(List Int)×(List (Int×aq))×(List (Int×Sub))×(List (Int×Bool))×(List ((List UInt8)×Int))×(List (Int×Int))
abbrev uZ:Sub:=⟨0,0,0,([]:List UInt8),([]:List (List UInt8)),([]:List (List UInt8)),false,false⟩
section maps
variable {κ α:Type} [BEq κ] [LawfulBEq κ]
theorem mS (p:κ×α) (l:List (κ×α)) (k:κ):aC (p::l) k=if k==p.1 then some p.2 else aC l k:=by
 unfold aC;rw [List.find?_cons];split <;> simp_all
theorem FR (p:κ×α) (l:List (κ×α)) (k:κ):er (p::l) k=if k==p.1 then some 0 else (er l k).map (·+1):=by
 unfold er;rw [List.findIdx?_cons]
theorem C6 (p:κ×α) (l:List (κ×α)) (k:κ) (v:α):dj (p::l) k v=if k==p.1 then (k,v)::l else p::dj l k v:=by
 unfold dj;rw [FR];by_cases h:(k==p.1)=true
 ·rw [zab h,zab h];rfl
 ·rw [zaa h,zaa h];cases er l k <;> rfl
theorem yA (p:κ×α) (l:List (κ×α)) (k:κ):fx (p::l) k=if k==p.1 then l else p::fx l k:=by
 unfold fx;rw [FR];by_cases h:(k==p.1)=true
 ·rw [zab h,zab h];rfl
 ·rw [zaa h,zaa h];cases er l k <;> rfl
theorem fw (k:κ) (v:α) (k':κ):∀ (l:List (κ×α)),aC (dj l k v) k'=if k'==k then some v else aC l k'
 | []=>by
  show aC [(k,v)] k'=_;rw [mS]
 | p::l=>by
  have ih:=fw k v k' l;rw [C6];by_cases h:(k==p.1)=true
  ·have e:=eq_of_beq h;rw [zab h,mS,mS,←e];by_cases h2:(k'==k)=true
   ·rw [zab h2,zab h2]
   ·rw [zaa h2,zaa h2,zaa h2]
  ·rw [zaa h,mS,mS,ih];by_cases h2:(k'==k)=true
   ·have e:=eq_of_beq h2;rw [zab h2,zaa (by rw [e];exact h),zab h2]
   ·rw [zaa h2,zaa h2]
theorem Hz (k:κ) (v:α) (z:κ):∀ (l:List (κ×α)),z∈(dj l k v).map (·.1)↔z=k∨z∈l.map (·.1)
 | []=>by simp [dj,er]
 | p::l=>by
  rw [C6];split
  ·rename_i h;have e:=eq_of_beq h;simp [e]
  ·rw [zap,zav,Hz k v z l,zap,zav];constructor
   ·rintro (h|h|h)
    ·exact .inr (.inl h)
    ·exact .inl h
    ·exact .inr (.inr h)
   ·rintro (h|h|h)
    ·exact .inr (.inl h)
    ·exact .inl h
    ·exact .inr (.inr h)
theorem xd (k:κ) (v:α):∀ {l:List (κ×α)},(l.map (·.1)).Nodup->((dj l k v).map (·.1)).Nodup
 | [],_=>by simp [dj,er]
 | p::l,h=>by
  rw [zap,zbs] at h;rw [C6];split
  ·rename_i e;rw [zap,zbs,show k=p.1 from eq_of_beq e];exact h
  ·rename_i e;rw [zap,zbs];refine ⟨λhm=>?_,xd k v h.2⟩;rcases (Hz k v p.1 l).1 hm with h1|h1
   ·exact e (by rw [h1];exact zfk k)
   ·exact h.1 h1
theorem FU (k:κ) (z:κ):∀ (l:List (κ×α)),z∈(fx l k).map (·.1)->z∈l.map (·.1)
 | [],h=>by simp [fx,er] at h
 | p::l,h=>by
  rw [yA] at h;split at h
  ·exact zal _ h
  ·rw [zap,zav] at h ⊢;exact h.imp id (FU k z l)
theorem B0 (k:κ):∀ {l:List (κ×α)},(l.map (·.1)).Nodup->((fx l k).map (·.1)).Nodup
 | [],_=>by simp [fx,er]
 | p::l,h=>by
  rw [zap,zbs] at h;rw [yA];split
  ·exact h.2
  ·rw [zap,zbs];exact ⟨λhm=>h.1 (FU k _ l hm),B0 k h.2⟩
theorem te (k k':κ):∀ {l:List (κ×α)},(l.map (·.1)).Nodup->aC (fx l k) k'=if k'==k then none else aC l k'
 | [],_=>by
  have:fx ([]:List (κ×α)) k=[]:=rfl;rw [this];unfold aC;simp
 | p::l,h=>by
  rw [zap,zbs] at h;rw [yA];by_cases e:(k==p.1)=true
  ·have e':=eq_of_beq e;rw [zab e];by_cases h2:(k'==k)=true
   ·rw [zab h2,LL];rw [eq_of_beq h2,e'];exact h.1
   ·rw [zaa h2,mS,←e',zaa h2]
  ·rw [zaa e,mS,mS,te k k' h.2];by_cases h2:(k'==k)=true
   ·rw [zab h2,zaa (by rw [eq_of_beq h2];exact e),zab h2]
   ·rw [zaa h2,zaa h2]
end maps
def Zt (e:Event) (w:W7):Option W7:=eY e w.1 w.2.1 w.2.2.1 w.2.2.2.1 w.2.2.2.2.1 w.2.2.2.2.2.1 w.2.2.2.2.2.2
def Nu (s:Sub) (e:Event):Sub :=
 if e.kind=5 then { s with numbers:=wk nH e.number s.numbers }
 else if e.kind=6 then { s with numbers:=GU e.number s.numbers }
 else if e.kind=7 then { s with vP:=e.name }
 else if e.kind=8 then { s with cz:=wk nH e.name s.cz }
 else if e.kind=9 then { s with cz:=GU e.name s.cz }
 else if e.kind=10 then { s with bO:=true }
 else if e.kind=11 then { s with bO:=false }
 else if e.kind=12 then { s with family:=true }
 else if e.kind=13 then { s with family:=false }
 else s
def AP (e:Event):Sub:=⟨e.sub,e.aw,e.at_,e.name,[],[],false,false⟩
def Q2 (e:Event) (w:W7):List Int:=if e.kind=3/\(aC w.2.2.2.2.1 e.sub).getD false=false then wk GS e.sub w.2.1 else w.2.1
def Y1 (e:Event) (w:W7):List (Int×Bool):=if e.kind=3 then dj w.2.2.2.2.1 e.sub true else w.2.2.2.2.1
def OP (e:Event) (w:W7):List (Int×Sub) :=
 if e.kind=3 then dj w.2.2.2.1 e.sub (AP e)
 else if e.kind=4 then fx w.2.2.2.1 e.sub
 else if e.kind=1∨e.kind=2∨e.kind=14∨e.kind=15 then w.2.2.2.1
 else match aC w.2.2.2.1 e.sub with
  | some s=>dj w.2.2.2.1 e.sub (Nu s e)
  | none=>w.2.2.2.1
structure WB (n:Nat) (w:W7):Prop where
 opened:w.1.length<=n
 added:w.2.1.length<=n
 nums:∀ k s,aC w.2.2.2.1 k=some s->s.numbers.length<=n/\s.cz.length<=n
 live:∀ k,-(n:Int)<=(aC w.2.2.2.2.2.2 k).getD 0/\(aC w.2.2.2.2.2.2 k).getD 0<=(n:Int)
 keys:(w.2.2.2.1.map (·.1)).Nodup
theorem WB.up {n:Nat} {w:W7} (h:WB n w):WB (n+1) w:=⟨by have:=h.opened;omega,by have:=h.added;omega,λk s hs=>by have:=h.nums k s hs;omega,λk=>by have:=h.live k;omega,h.keys⟩
theorem OQ (s:Sub) (e:Event) (a b:List Int) (c:List (Int×aq)) (d:List (Int×Sub)) (f:List (Int×Bool)) (o:List ((List UInt8)×Int)) (l:List (Int×Int)) (h1:s.numbers.length<=100000) (h2:s.cz.length<=100000) :
  ∃ o',fm s e a b c d f o l=some (Nu s e,o'):=by
 unfold fm Nu;by_cases k5:e.kind=5
 ·rw [zab (by simpa using k5),KU _ _ h1,zab k5];exact ⟨_,rfl⟩
 rw [zaa (by simpa using k5),zaa k5];by_cases k6:e.kind=6
 ·rw [zab (by simpa using k6),KW _ _ h1,zab k6];exact ⟨_,rfl⟩
 rw [zaa (by simpa using k6),zaa k6];by_cases k7:e.kind=7
 ·rw [zab (by simpa using k7),zab k7];exact ⟨_,rfl⟩
 rw [zaa (by simpa using k7),zaa k7];by_cases k8:e.kind=8
 ·rw [zab (by simpa using k8),KU _ _ h2,zab k8];exact ⟨_,rfl⟩
 rw [zaa (by simpa using k8),zaa k8];by_cases k9:e.kind=9
 ·rw [zab (by simpa using k9),KW _ _ h2,zab k9];exact ⟨_,rfl⟩
 rw [zaa (by simpa using k9),zaa k9];by_cases LI:e.kind=10
 ·rw [zab (by simpa using LI),zab LI];exact ⟨_,rfl⟩
 rw [zaa (by simpa using LI),zaa LI];by_cases Q3:e.kind=11
 ·rw [zab (by simpa using Q3),zab Q3];exact ⟨_,rfl⟩
 rw [zaa (by simpa using Q3),zaa Q3];by_cases SF:e.kind=12
 ·rw [zab (by simpa using SF),zab SF];exact ⟨_,rfl⟩
 rw [zaa (by simpa using SF),zaa SF];by_cases SG:e.kind=13
 ·rw [zab (by simpa using SG),zab SG];exact ⟨_,rfl⟩
 rw [zaa (by simpa using SG),zaa SG];exact ⟨_,rfl⟩
theorem Nv (s:Sub) (e:Event):(Nu s e).numbers.length<=s.numbers.length+1/\(Nu s e).cz.length<=s.cz.length+1:=by
 unfold Nu;have a:=BZ nH e.number s.numbers;have b:=BZ nH e.name s.cz;have c:=Nt e.number s.numbers;have d:=Nt e.name s.cz
 repeat' split
 all_goals first|omega|(simp only;omega)
theorem I0 (n:Nat) (e:Event) (w:W7) (h:WB n w) (hn:n<=10000):∃ w',Zt e w=some w'/\WB (n+1) w'/\w'.2.1=Q2 e w/\w'.2.2.2.1=OP e w/\w'.2.2.2.2.1=Y1 e w:=by
 obtain ⟨op,ad,ac,su,ev,ow,li⟩:=w;have h1:=h.opened;have h2:=h.added;have h3:=h.nums;have h4:=h.live;have h5:=h.keys;simp only at h1 h2 h3 h4 h5;have up:=h.up;unfold Zt Q2 OP Y1;simp only;have Wr:=up.opened;have Ry:=up.added;have Ws:=up.nums;have Wu:=up.live;simp only at Wr Ry Ws Wu;unfold eY;by_cases k1:e.kind=1
 ·have n3:¬e.kind=3:=by omega
  have n4:¬e.kind=4:=by omega
  rw [zab (by simpa using k1)];simp only [n3,n4,k1,false_and,zbw,true_or,zcf];split
  ·rw [KT _ _ (by omega),zac];unfold dx;exact ⟨_,rfl,⟨by simp only [BZ];omega,Ry,Ws,Wu,h5⟩,rfl,rfl,rfl⟩
  ·unfold dx;exact ⟨_,rfl,⟨Wr,Ry,Ws,Wu,h5⟩,rfl,rfl,rfl⟩
 rw [zaa (by simpa using k1)];by_cases k2:e.kind=2
 ·have n3:¬e.kind=3:=by omega
  have n4:¬e.kind=4:=by omega
  rw [zab (by simpa using k2)];simp only [n3,n4,k2,false_and,zbw,true_or,or_true,zcf];exact ⟨_,rfl,⟨Wr,Ry,Ws,Wu,h5⟩,rfl,rfl,rfl⟩
 rw [zaa (by simpa using k2)];by_cases k3:e.kind=3
 ·rw [zab (by simpa using k3)];simp only [k3,true_and,zcf];have hl:cR ((aC li e.aw).getD 0+1):=by have:=h4 e.aw;exact ⟨by omega,by omega⟩
  have TP:∀ k,-((n+1:Nat):Int)<=(aC (dj li e.aw ((aC li e.aw).getD 0+1)) k).getD 0/\(aC (dj li e.aw ((aC li e.aw).getD 0+1)) k).getD 0<=((n+1:Nat):Int):=λk=>by
   rw [fw];split
   ·have:=h4 e.aw;simp only [zco];omega
   ·exact Wu k
  have KX:∀ k s,aC (dj su e.sub (⟨e.sub,e.aw,e.at_,e.name,([]:List (List UInt8)),([]:List (List UInt8)),false,false⟩:Sub)) k=some s->s.numbers.length<=n+1/\s.cz.length<=n+1:=λk s hs=>by
   rw [fw] at hs;split at hs
   ·cases hs;simp
   ·exact Ws k s hs
  by_cases Po:(aC ev e.sub).getD false=false
  ·rw [zab (by rw [Po];rfl),KT _ _ (by omega),zac,zab Po];unfold dy;rw [af hl];exact ⟨_,rfl,⟨Wr,by simp only [BZ];omega,KX,TP,xd _ _ h5⟩,rfl,rfl,rfl⟩
  ·rw [zaa (by simpa using Po),zaa Po];unfold dy;rw [af hl];exact ⟨_,rfl,⟨Wr,Ry,KX,TP,xd _ _ h5⟩,rfl,rfl,rfl⟩
 rw [zaa (by simpa using k3)];simp only [k3,false_and,zbw];by_cases k4:e.kind=4
 ·rw [zab (by simpa using k4)];simp only [k4,zcf];have Uz:((aC su e.sub).getD uZ).numbers.length<=n:=by
   cases hs:aC su e.sub with
   | none=>simp [uZ]
   | some s=>exact (h3 _ _ hs).1
  have key:∀ o,∃ o',loop (λs:Int×List ((List UInt8)×Int)=>e8 e op ad ac su ev li s.1 s.2) (0,o)=cH e op ad ac su ev li o':=λo=>by
   refine ⟨((aC su e.sub).getD uZ).numbers.foldl fx o,?_⟩;have hF:∀ o,∃ r,cH e op ad ac su ev li o=some r:=λo=>by
    unfold cH;have hl:cR ((aC li ((aC su e.sub).getD uZ).aw).getD 0-1):=by have:=h4 ((aC su e.sub).getD uZ).aw;exact ⟨by omega,by omega⟩
    rw [af hl];exact ⟨_,rfl⟩
   refine bC ((aC su e.sub).getD uZ).numbers (λs=>s.1) (λs t=>cH e op ad ac su ev li (t.foldl fx s.2)) (λs t=>0<=s.1) (by omega) ?_ ?_ (s:=(0,o)) rfl (by simp)
   ·rintro ⟨i,o⟩ hi h6;simp only at hi h6;obtain ⟨r,hr⟩:=hF o;refine ⟨r,?_,hr⟩;unfold e8;simp only;rw [zaa (by rw [zah];show ¬ i<(((aC su e.sub).getD uZ).numbers.length:Int);omega),hr];rfl
   ·rintro ⟨i,o⟩ a t hi h6 h7 h8 h9;simp only at hi h6 h7 h8 h9;refine .inr ⟨(i+1,fx o a),?_,by simp only;omega,rfl,rfl⟩;unfold e8;simp only;rw [zab (by simpa using h7),af ⟨h6,h7⟩,af ⟨by omega,by omega⟩,h8]
  obtain ⟨o',ho⟩:=key ow;rw [ho];unfold cH;have hl:cR ((aC li ((aC su e.sub).getD uZ).aw).getD 0-1):=by have:=h4 ((aC su e.sub).getD uZ).aw;exact ⟨by omega,by omega⟩
  rw [af hl];refine ⟨_,rfl,⟨Wr,Ry,λk s hs=>?_,λk=>?_,B0 _ h5⟩,rfl,rfl,rfl⟩
  ·simp only at hs;rw [te _ _ h5] at hs;split at hs
   ·cases hs
   ·exact Ws k s hs
  ·simp only;rw [fw];split
   ·have:=h4 ((aC su e.sub).getD uZ).aw;simp only [zco];unfold uZ at this;omega
   ·exact Wu k
 rw [zaa (by simpa using k4)];simp only [k4,zbw];have hj:∀ b:Bool,(b=true->e.kind=14∨e.kind=15)->(b=false->¬(e.kind=14∨e.kind=15))->∃ w',dz e op ad ac su ev ow li b=some w'/\WB (n+1) w'/\w'.2.1=ad/\w'.2.2.2.1=(if e.kind=1∨e.kind=2∨e.kind=14∨e.kind=15 then su else match aC su e.sub with|some s=>dj su e.sub (Nu s e)|none=>su)/\w'.2.2.2.2.1=ev:=λb Js Lg=>by
  unfold dz;cases b with
  | true=>rw [zab rfl,zab (.inr (.inr (Js rfl)))];exact ⟨_,rfl,up,rfl,rfl,rfl⟩
  | false =>
   have hr:¬(e.kind=1∨e.kind=2∨e.kind=14∨e.kind=15):=by have:=Lg rfl;omega
   simp only [hr,zbw,zbf];cases hs:aC su e.sub with
   | none=>simp only [Option.isSome_none,zbf,zbw];exact ⟨_,rfl,up,rfl,rfl,rfl⟩
   | some s =>
    simp only [Option.isSome_some,zcf,zco];have hb:=h3 _ _ hs;obtain ⟨o',ho⟩:=OQ s e op ad ac su ev ow li (by omega) (by omega);rw [ho,zac];have hc:=Nv s e;refine ⟨_,rfl,⟨Wr,Ry,λk s' uz=>?_,Wu,xd _ _ h5⟩,rfl,rfl,rfl⟩;simp only at uz;rw [fw] at uz;split at uz
    ·cases uz;omega
    ·exact Ws k s' uz
 split
 ·rename_i Nw;refine hj _ (λ_=>.inl (by simpa using Nw)) (λk=>?_);rw [Nw] at k;cases k
 ·rename_i Nw;have k14':¬e.kind=14:=by simpa using Nw
  refine hj _ (λk=>.inr (by simpa using k)) (λk=>?_);have:¬e.kind=15:=by simpa using k
  omega
def w0:W7:=([],[],[],[],[],[],[])
theorem wb0:WB 0 w0:=⟨by simp [w0],by simp [w0],λk s h=>by simp [w0,aC] at h,λk=>by simp [w0,aC],by simp [w0]⟩
def KY (t:Int):List Event->W7->Option W7
 | [],w=>some w
 | e::l,w=>if e.at_<=t then (Zt e w).bind (KY t l) else KY t l w
theorem Wv (cP:List Event) (t:Int) (n:Nat) (w:W7) (h:WB n w) (hl:n+cP.length<=10000) :
  gW cP t w.1 w.2.1 w.2.2.1 w.2.2.2.1 w.2.2.2.2.1 w.2.2.2.2.2.1 w.2.2.2.2.2.2=KY t cP w:=by
 unfold gW;refine bC cP (λs:Int×W7=>s.1) (λs r=>KY t r s.2) (λs r=>0<=s.1/\∃ n,WB n s.2/\n+r.length<=10000) (by omega) ?_ ?_ (s:=(0,w)) rfl ⟨by simp,n,h,hl⟩
 ·rintro ⟨i,w⟩ ⟨h1,_⟩ h2;simp only at h1 h2;refine ⟨w,?_,rfl⟩;unfold jA;rw [zaa (by simp only [zah];omega)]
 ·rintro ⟨i,w⟩ e r ⟨h1,n,hb,h2⟩ h3 h4 h5 h6;simp only at h1 h2 h3 h4 h5 h6 hb;rw [zag] at h2;unfold jA;simp only;rw [zab (by simpa using h4),af ⟨h3,h4⟩,h5];by_cases ha:e.at_<=t
  ·obtain ⟨w',hw,kc,_⟩:=I0 n e w hb (by omega);have hr:iX e w.1 w.2.1 w.2.2.1 w.2.2.2.1 w.2.2.2.2.1 w.2.2.2.2.2.1 w.2.2.2.2.2.2=some w':=by
    unfold iX;have:eY e w.1 w.2.1 w.2.2.1 w.2.2.2.1 w.2.2.2.2.1 w.2.2.2.2.2.1 w.2.2.2.2.2.2=some w':=hw;rw [this];rfl
   rw [zab (by simpa using ha),hr,zac,af ⟨by omega,by omega⟩];refine .inr ⟨(i+1,w'),rfl,⟨by simp only;omega,n+1,kc,by omega⟩,rfl,?_⟩;simp only;rw [KY,zab ha,hw];rfl
  ·rw [zaa (by simpa using ha),af ⟨by omega,by omega⟩];refine .inr ⟨(i+1,w),rfl,⟨by simp only;omega,n,hb,by omega⟩,rfl,?_⟩;simp only;rw [KY,zaa ha]
theorem I1 (t:Int):∀ (cP:List Event) (n:Nat) (w:W7),WB n w->n+cP.length<=10000->∃ w',KY t cP w=some w'/\WB (n+cP.length) w'
 | [],n,w,h,_=>⟨w,rfl,h⟩
 | e::l,n,w,h,hl=>by
  rw [zag] at hl;unfold KY;split
  ·obtain ⟨w',hw,kc,_⟩:=I0 n e w h (by omega);obtain ⟨w2,h1,h2⟩:=I1 t l (n+1) w' kc (by omega);refine ⟨w2,by rw [hw];exact h1,?_⟩;rw [zag,show n+(l.length+1)=n+1+l.length from by omega];exact h2
  ·obtain ⟨w2,h1,h2⟩:=I1 t l (n+1) w h.up (by omega);refine ⟨w2,h1,?_⟩;rw [zag,show n+(l.length+1)=n+1+l.length from by omega];exact h2
def jK (w:W7):List Sub:=w.2.1.filterMap (aC w.2.2.2.1)
def Ww (su:List (Int×Sub)):List Int->List (Int×List Int)->List (Int×List Int)
 | [],o=>o
 | k::t,o=>match aC su k with
  | none=>Ww su t o
  | some s=>Ww su t (dj o s.aw ((aC o s.aw).getD []++[k]))
theorem Nx (op:List Int) (ac:List (Int×aq)) (L:List Sub) (o:List (Int×List Int)) (hl:op.length<=10000):∃ a,cU op ac L o=some ⟨a,L⟩:=by
 unfold cU
 let f:Int->aq:=λk=>⟨((aC ac k).getD (⟨0,0,0,false,false,([]:List Int)⟩:aq)).id,((aC ac k).getD (⟨0,0,0,false,false,([]:List Int)⟩:aq)).since,((aC ac k).getD (⟨0,0,0,false,false,([]:List Int)⟩:aq)).anchor,((aC ac k).getD (⟨0,0,0,false,false,([]:List Int)⟩:aq)).fO,((aC ac k).getD (⟨0,0,0,false,false,([]:List Int)⟩:aq)).closed,(aC o k).getD ([]:List Int)⟩
 refine ⟨op.map f,?_⟩;have:=bC (step:=λs:Int×List aq=>ed op ac L o s.1 s.2) op (λs=>s.1) (λs r=>some (⟨s.2++r.map f,L⟩:cj)) (λs r=>0<=s.1/\(s.2.length:Int)<=s.1/\s.1<=(op.length:Int)) (by omega) ?_ ?_ (s:=(0,[])) rfl (by simp)
 ·rw [this];simp
 ·rintro ⟨i,l⟩ ⟨h1,h2,h3⟩ h4;simp only at h1 h2 h3 h4;refine ⟨⟨l,L⟩,?_,by simp⟩;unfold ed;rw [zaa (by simp only [zah];omega)]
 ·rintro ⟨i,l⟩ k r ⟨h1,h2,h3⟩ h4 h5 h6 h7;simp only at h1 h2 h3 h4 h5 h6 h7;refine .inr ⟨(i+1,l++[f k]),?_,⟨by simp only;omega,by simp only [zai,zan];omega,by simp only;omega⟩,rfl,by simp⟩;unfold ed;rw [zab (by simpa using h5),af ⟨h4,h5⟩,af (by simp only [zan];omega),af ⟨by omega,by omega⟩,h6]
theorem KZ (n:Nat) (w:W7) (h:WB n w) (hn:n<=10000):∃ a,eR w.1 w.2.1 w.2.2.1 w.2.2.2.1 w.2.2.2.2.1 w.2.2.2.2.2.1 w.2.2.2.2.2.2=some ⟨a,jK w⟩:=by
 obtain ⟨op,ad,ac,su,ev,ow,li⟩:=w;have h1:=h.opened;have h2:=h.added;simp only at h1 h2;unfold eR jK;simp only;obtain ⟨a,ha⟩:=Nx op ac (ad.filterMap (aC su)) (Ww su ad []) (by omega);refine ⟨a,?_⟩;have:=bC (step:=λs:Int×List Sub×List (Int×List Int)=>cV op ad ac su s.1 s.2.1 s.2.2) ad (λs=>s.1) (λs r=>cU op ac (s.2.1++r.filterMap (aC su)) (Ww su r s.2.2))
  (λs r=>0<=s.1/\(s.2.1.length:Int)<=s.1/\s.1<=(ad.length:Int)/\∀ k,(((aC s.2.2 k).getD []).length:Int)<=s.1) (by omega) ?_ ?_ (s:=(0,[],[])) rfl ⟨by simp,by simp,by simp,λk=>by simp [aC]⟩
 ·rw [this];simpa using ha
 ·rintro ⟨i,l,o⟩ ⟨h3,h4,h5,h6⟩ h7;simp only at h3 h4 h5 h6 h7;obtain ⟨a,ha⟩:=Nx op ac l o (by omega);refine ⟨⟨a,l⟩,?_,by simpa [Ww] using ha⟩;unfold cV;rw [zaa (by simp only [zah];omega),ha];rfl
 ·rintro ⟨i,l,o⟩ k r ⟨h3,h4,h5,h6⟩ h7 h8 h9 Ks;simp only at h3 h4 h5 h6 h7 h8 h9 Ks;unfold cV;simp only;rw [zab (by simpa using h8),af ⟨h7,h8⟩,h9];cases hs:aC su k with
  | none =>
   refine .inr ⟨(i+1,l,o),?_,⟨by simp only;omega,by simp only;omega,by simp only;omega,λk=>by have:=h6 k;simp only;omega⟩,rfl,?_⟩
   ·rw [zab (by simp),af ⟨by omega,by omega⟩]
   ·simp only [zdu,hs,Ww]
  | some s =>
   have h6':=h6 s.aw;refine .inr ⟨(i+1,l++[s],dj o s.aw ((aC o s.aw).getD []++[k])),?_,⟨by simp only;omega,by simp only [zai,zan];omega,by simp only;omega,λk'=>?_⟩,rfl,?_⟩
   ·rw [zaa (by simp)];simp only [zco];rw [af (by simp only [zan];omega),af (by simp only [zan];omega),af ⟨by omega,by omega⟩]
   ·simp only;rw [fw];split
    ·simp only [zco,zai,zan];omega
    ·have:=h6 k';omega
   ·simp only [zdu,hs,Ww,zax,zdp]
theorem SH (cP:List Event) (t:Int) (hl:cP.length<=5000):∃ w a,KY t cP w0=some w/\WB cP.length w/\ey cP t=some ⟨a,jK w⟩:=by
 obtain ⟨w,h1,h2⟩:=I1 t cP 0 w0 wb0 (by omega);rw [zbp] at h2;obtain ⟨a,ha⟩:=KZ _ w h2 (by omega);refine ⟨w,a,h1,h2,?_⟩;unfold ey mZ oD;have:=Wv cP t 0 w0 wb0 (by omega);simp only [zac];rw [show gW cP t ([]:List Int) ([]:List Int) ([]:List (Int×aq)) ([]:List (Int×Sub)) ([]:List (Int×Bool)) ([]:List ((List UInt8)×Int)) ([]:List (Int×Int))=KY t cP w0 from this,h1,zac,ha];rfl
def Wx:List Sub->List ((List UInt8)×Int)->List ((List UInt8)×Int)
 | [],o=>o
 | s::l,o=>Wx l (s.numbers.foldl (λo n=>dj o n s.id) o)
theorem Q4 (cP:List Event) (t:Int) (c:cj) (h:ey cP t=some c) (hl:c.bm.length<=10000) (hn:∀ s,s∈c.bm->s.numbers.length<=10000):iY cP t=some (Wx c.bm []):=by
 unfold iY;rw [h,zac];refine bC (step:=λs:Int×List ((List UInt8)×Int)=>gz c s.1 s.2) c.bm (λs=>s.1) (λs r=>some (Wx r s.2)) (λs r=>0<=s.1/\∀ x,x∈r->x.numbers.length<=10000) (by omega) ?_ ?_ (s:=(0,[])) rfl ⟨by simp,hn⟩
 ·rintro ⟨i,o⟩ ⟨h1,_⟩ h2;simp only at h1 h2;refine ⟨o,?_,rfl⟩;unfold gz;rw [zaa (by simp only [zah];omega)]
 ·rintro ⟨i,o⟩ x r ⟨h1,h2⟩ h3 h4 h5 h6;simp only at h1 h2 h3 h4 h5 h6;refine .inr ⟨(i+1,x.numbers.foldl (λo n=>dj o n x.id) o),?_,⟨by simp only;omega,λy hy=>h2 y (zal _ hy)⟩,rfl,rfl⟩
  unfold gz;rw [zab (by simpa using h4),af ⟨h3,h4⟩];have hx:=h2 x (zao ..);refine bC (step:=λs:Int×List ((List UInt8)×Int)=>gy c i s.1 s.2) x.numbers (λs=>s.1) (λs r=>some (.inl (i+1,r.foldl (λo n=>dj o n x.id) s.2))) (λs r=>0<=s.1) (by omega) ?_ ?_ (s:=(0,o)) rfl (by simp)
  ·rintro ⟨j,o⟩ h7 h8;simp only at h7 h8;refine ⟨_,?_,rfl⟩;unfold gy;rw [h5,zaa (by simp only [zah];omega),af ⟨by omega,by omega⟩];rfl
  ·rintro ⟨j,o⟩ n q h7 h8 h9 Ks h11;simp only at h7 h8 h9 Ks h11;refine .inr ⟨(j+1,dj o n x.id),?_,by simp only;omega,rfl,rfl⟩;unfold gy;rw [h5,zab (by simpa using h9),af ⟨h8,h9⟩,af ⟨by omega,by omega⟩,Ks]
def K0 (id:Int):List Sub->Sub×Bool
 | []=>(uZ,false)
 | s::l=>if s.id=id then (s,true) else K0 id l
theorem Y2 (cP:List Event) (id t:Int) (c:cj) (h:ey cP t=some c) (hl:c.bm.length<=10000):ml cP id t=some (K0 id c.bm):=by
 unfold ml;rw [h,zac];refine bC (step:=λs:Int=>jB id c s) c.bm (λs=>s) (λs r=>some (K0 id r)) (λs r=>0<=s) (by omega) ?_ ?_ (s:=0) rfl (by simp)
 ·rintro i h1 h2;refine ⟨_,?_,rfl⟩;unfold jB;rw [zaa (by simp only [zah];omega)];rfl
 ·rintro i x r h1 h2 h3 h4 h5;unfold jB;rw [zab (by simpa using h3),af ⟨h2,h3⟩,h4];by_cases hx:x.id=id
  ·rw [zab (by simpa using hx)];exact .inl ⟨_,rfl,by rw [K0,zab hx]⟩
  ·rw [zaa (by simpa using hx),af ⟨by omega,by omega⟩];exact .inr ⟨_,rfl,by omega,rfl,by rw [K0,zaa hx]⟩
def B1 (r:aa):List UInt8:=if r.bI=true then r.b else r.a
def I2 (L:List Sub) (n:List UInt8):Sub×Bool:=match aC (Wx L []) n with
 | none=>(uZ,false)
 | some id=>K0 id L
theorem SI (cP:List Event) (r:aa) (c:cj) (h:ey cP r.start=some c) (hl:c.bm.length<=10000) (hn:∀ s,s∈c.bm->s.numbers.length<=10000) :
  ik (⟨(⟨r⟩:dD),cP⟩:jR)=some (I2 c.bm (B1 r)):=by
 unfold ik;have Wy:fR (⟨r⟩:dD)=some (B1 r):=by
  unfold fR B1;split <;> rfl
 simp only;rw [Wy,zac];unfold lU I2;rw [Q4 cP _ c h hl hn,zac,zac];cases ha:aC (Wx c.bm []) (B1 r) with
 | none=>simp
 | some id =>
  simp only [Option.isSome_some,zco,zck,zbf,zbw];rw [Y2 cP id _ c h hl,zac]
def FV:aA:=⟨0,0,0,0,([]:List UInt8),([]:List UInt8),0,0,0,false,0,0⟩
def I3 (L:List Sub) (r:aa) (id:Int):aA×Int :=
 if fM r≠0 then (FV,fM r)
 else if r.part≠0 then (FV,8)
 else if (I2 L (B1 r)).2=false then (FV,11)
 else if (I2 L (B1 r)).1.bO=true/\r.bI=false then (FV,16)
 else (⟨id,r.kind,(I2 L (B1 r)).1.aw,(I2 L (B1 r)).1.id,r.a,r.b,r.start,r.cJ,r.cT,r.bI,r.source,r.aZ⟩,0)
theorem SJ (cP:List Event) (r:aa) (id:Int) (c:cj) (h:ey cP r.start=some c) (hl:c.bm.length<=10000) (hn:∀ s,s∈c.bm->s.numbers.length<=10000) (hs:Sm r) :
  fU cP r id=some (I3 c.bm r id):=by
 unfold fU I3;rw [IV r hs,zac,SI cP r c h hl hn];by_cases h1:fM r=0
 ·rw [zaa (show ¬((fM r != 0)=true) by simp [h1]),zaa (show ¬(fM r≠0) from λk=>k h1)];by_cases h2:r.part=0
  ·rw [zaa (show ¬((r.part != 0)=true) by simp [h2]),zaa (show ¬(r.part≠0) from λk=>k h2),zac];generalize I2 c.bm (B1 r)=y;obtain ⟨s,ok⟩:=y;cases ok with
   | false=>simp [FV]
   | true =>
    simp only [zck,zbf,zbw];cases hss:s.bO <;> cases hi:r.bI <;> simp [FV,jj,hi]
  ·rw [zab (show (r.part != 0)=true by simpa using h2),zab (show r.part≠0 from h2)];rfl
 ·rw [zab (show (fM r != 0)=true by simpa using h1),zab (show fM r≠0 from h1)];rfl
abbrev Bk:=ai
def uv {α:Type} (p:α->Bool):List α->Int->Int
 | [],_=>-1
 | a::l,i=>if p a=true then i else uv p l (i+1)
theorem tx {α:Type} [Inhabited α] (p:α->Bool):∀ (l:List α) (i:Int),0<=i->(uv p l i=-1/\∀ a,a∈l->p a=false)∨(i<=uv p l i/\uv p l i<i+l.length/\p (nth l (uv p l i-i).toNat)=true)
 | [],i,_=>.inl ⟨rfl,λa h=>by simp at h⟩
 | a::l,i,hi=>by
  unfold uv;by_cases h:p a=true
  ·rw [zab h];refine .inr ⟨by omega,by rw [zag];omega,?_⟩;rw [show (i-i).toNat=0 from by omega,lL];exact h
  ·rw [zaa h];rcases tx p l (i+1) (by omega) with ⟨h1,h2⟩|⟨h1,h2,h3⟩
   ·exact .inl ⟨h1,λb hb=>by
     rcases zav.1 hb with rfl|hb
     ·simpa using h
     ·exact h2 b hb⟩
   ·refine .inr ⟨by omega,by rw [zag];omega,?_⟩;rw [show (uv p l (i+1) - i).toNat=(uv p l (i+1) - (i+1)).toNat+1 from by omega,j0];exact h3
theorem C7 (b:Bk) (n:Int) (hl:b.aJ.length<=100000):jY b n=some (uv (λa=>a.id==n) b.aJ 0):=by
 unfold jY;refine bC (step:=λs:Int=>kH b n s) b.aJ (λs=>s) (λs r=>some (uv (λa=>a.id==n) r s)) (λs r=>0<=s) (by omega) ?_ ?_ (s:=0) rfl (by simp)
 ·rintro i h1 h2;refine ⟨_,?_,rfl⟩;unfold kH;rw [zaa (by simp only [zah];omega)];rfl
 ·rintro i x r h1 h2 h3 h4 h5;unfold kH;rw [zab (by simpa using h3),af ⟨h2,h3⟩,h4];by_cases hx:(x.id==n)=true
  ·rw [zab hx];exact .inl ⟨_,rfl,by rw [uv,zab hx]⟩
  ·rw [zaa hx,af ⟨by omega,by omega⟩];exact .inr ⟨_,rfl,by omega,rfl,by rw [uv,zaa hx]⟩
def kP (b:Bk) (n:Int):Int:=uv (λa:Sub=>a.id==n) b.bm 0
theorem FW (b:Bk) (n:Int) (hl:b.bm.length<=100000):nm b n=some (kP b n):=by
 unfold nm;refine bC (step:=λs:Int=>pK b n s) b.bm (λs=>s) (λs r=>some (uv (λa:Sub=>a.id==n) r s)) (λs r=>0<=s) (by omega) ?_ ?_ (s:=0) rfl (by simp)
 ·rintro i h1 h2;refine ⟨_,?_,rfl⟩;unfold pK;rw [zaa (by simp only [zah];omega)];rfl
 ·rintro i x r h1 h2 h3 h4 h5;unfold pK;rw [zab (by simpa using h3),af ⟨h2,h3⟩,h4];by_cases hx:(x.id==n)=true
  ·rw [zab hx];exact .inl ⟨_,rfl,by rw [uv,zab hx]⟩
  ·rw [zaa hx,af ⟨by omega,by omega⟩];exact .inr ⟨_,rfl,by omega,rfl,by rw [uv,zaa hx]⟩
theorem Er (b:Bk) (n:Int) (hl:b.ended.length<=100000):kU b n=some (decide (n∈b.ended)):=by
 unfold kU;refine bC (step:=λs:Int=>mF b n s) b.ended (λs=>s) (λs r=>some (decide (n∈r))) (λs r=>0<=s) (by omega) ?_ ?_ (s:=0) rfl (by simp)
 ·rintro i h1 h2;refine ⟨_,?_,rfl⟩;unfold mF;rw [zaa (by simp only [zah];omega)];simp
 ·rintro i x r h1 h2 h3 h4 h5;unfold mF;rw [zab (by simpa using h3),af ⟨h2,h3⟩,h4];by_cases hx:x=n
  ·rw [zab (by simpa using hx)];exact .inl ⟨_,rfl,by simp [hx]⟩
  ·rw [zaa (by simpa using hx),af ⟨by omega,by omega⟩];exact .inr ⟨_,rfl,by omega,rfl,by simp [zcb hx]⟩
theorem I4 (l:List (List UInt8)) (n:List UInt8) (hl:l.length<=100000):nn l n=some (decide (n∈l)):=by
 unfold nn;refine bC (step:=λs:Int=>pL l n s) l (λs=>s) (λs r=>some (decide (n∈r))) (λs r=>0<=s) (by omega) ?_ ?_ (s:=0) rfl (by simp)
 ·rintro i h1 h2;refine ⟨_,?_,rfl⟩;unfold pL;rw [zaa (by simp only [zah];omega)];simp
 ·rintro i x r h1 h2 h3 h4 h5;unfold pL;rw [zab (by simpa using h3),af ⟨h2,h3⟩,h4];by_cases hx:x=n
  ·rw [zab (by simpa using hx)];exact .inl ⟨_,rfl,by simp [hx]⟩
  ·rw [zaa (by simpa using hx),af ⟨by omega,by omega⟩];exact .inr ⟨_,rfl,by omega,rfl,by simp [zcb hx]⟩
structure BB (n:Nat) (b:Bk):Prop where
 Mt:b.aJ.length<=n
 bm:b.bm.length<=n
 ended:b.ended.length<=n
 nums:∀ s,s∈b.bm->s.numbers.length<=n/\s.cz.length<=n
theorem BB.up {n:Nat} {b:Bk} (h:BB n b):BB (n+1) b:=⟨by have:=h.Mt;omega,by have:=h.bm;omega,by have:=h.ended;omega,λs hs=>by have:=h.nums s hs;omega⟩
theorem SK (b:Bk) (x:List UInt8) (n:Nat) (h:BB n b) (hn:n<=10000):rL b x=some (b.bm.any λs=>decide (x∈s.numbers)):=by
 unfold rL;have hl:=h.bm;refine bC (step:=λs:Int=>mG b x s) b.bm (λs=>s) (λs r=>some (r.any λs=>decide (x∈s.numbers))) (λs r=>0<=s/\∀ y,y∈r->y.numbers.length<=n) (by omega) ?_ ?_ (s:=0) rfl ⟨by simp,λy hy=>(h.nums y hy).1⟩
 ·rintro i ⟨h1,_⟩ h2;refine ⟨_,?_,rfl⟩;unfold mG;rw [zaa (by simp only [zah];omega)];simp
 ·rintro i y r ⟨h1,h2⟩ h3 h4 h5 h6;have hy:=h2 y (zao ..);unfold mG;rw [zab (by simpa using h4),af ⟨h3,h4⟩,h5,I4 _ _ (by omega),zac];by_cases hx:x∈y.numbers
  ·rw [zab (by simpa using hx)];exact .inl ⟨_,rfl,by simp [hx]⟩
  ·rw [zaa (by simpa using hx),af ⟨by omega,by omega⟩];exact .inr ⟨_,rfl,⟨by omega,λz hz=>h2 z (zal _ hz)⟩,rfl,by simp [hx]⟩
theorem Wz (b:Bk) (k:Int) (n:Nat) (h:BB n b) (hn:n<=10000):∃ y,tX b k=some y:=by
 unfold tX;have hl:=h.bm;have he:=h.ended;refine ⟨_,bC (step:=λs:Int=>oe b k s) b.bm (λs=>s) (λs r=>some (r.any λs=>(s.aw==k) && !decide (s.id∈b.ended))) (λs r=>0<=s) (by omega) ?_ ?_ (s:=0) rfl (by simp)⟩
 ·rintro i h1 h2;refine ⟨_,?_,rfl⟩;unfold oe;rw [zaa (by simp only [zah];omega)];simp
 ·rintro i y r h1 h3 h4 h5 h6;unfold oe;rw [zab (by simpa using h4),af ⟨h3,h4⟩,af (λ_=>⟨h3,h4⟩),h5,Er _ _ (by omega)];by_cases ha:(y.aw==k)=true
  ·simp only [ha,ct,zcf,zac,zcr];by_cases hx:y.id∈b.ended
   ·rw [zaa (by simpa using hx),af ⟨by omega,by omega⟩];exact .inr ⟨_,rfl,by omega,rfl,by simp [ha,hx]⟩
   ·rw [zab (by simpa using hx)];exact .inl ⟨_,rfl,by simp [ha,hx]⟩
  ·have Pn:(y.aw==k)=false:=by simpa using ha
   simp only [Pn,ct,zbf,zbw,zac,zcx];rw [af ⟨by omega,by omega⟩];exact .inr ⟨_,rfl,by omega,rfl,by simp [Pn]⟩
def nE (k:Int):List Bool :=
 if k=1 then [true,false,false,true,true] else if k=2 then [true,false,false,false,false] else if k=3 then [true,true,false,true,false]
 else if k=5∨k=6 then [false,true,true,false,false] else if k=7∨k=8∨k=9 then [false,true,false,true,false] else if k=14∨k=15 then [true,false,false,false,true] else [false,true,false,false,false]
theorem Q5 (k:Int):qE k=some (nE k):=by
 unfold qE nE;have h3:∀ b:Bool,(b=true->k=14∨k=15)->(b=false->¬(k=14∨k=15))->jW b=some (if k=14∨k=15 then [true,false,false,false,true] else [false,true,false,false,false]):=λb h1 h2=>by
  unfold jW;cases b with
  | true=>rw [zab rfl,zab (h1 rfl)]
  | false=>rw [zaa (by simp),zaa (h2 rfl)]
 have h2:∀ b:Bool,(b=true->k=7∨k=8∨k=9)->(b=false->¬(k=7∨k=8∨k=9))->iJ k b=some (if k=7∨k=8∨k=9 then [false,true,false,true,false] else if k=14∨k=15 then [true,false,false,false,true] else [false,true,false,false,false]):=λb h1 h2=>by
  unfold iJ;cases b with
  | true=>rw [zab rfl,zab (h1 rfl)]
  | false =>
   rw [zaa (by simp),zaa (h2 rfl)];by_cases Nw:k=14
   ·rw [zab (by simpa using Nw)];exact h3 _ (λ_=>.inl Nw) (λh=>by simp [Nw] at h)
   ·rw [zaa (by simpa using Nw)];exact h3 _ (λh=>.inr (by simpa using h)) (λh=>by rw [zei] at h;omega)
 have h1:∀ b:Bool,(b=true->k=5∨k=6)->(b=false->¬(k=5∨k=6))->jX k b=some (if k=5∨k=6 then [false,true,true,false,false] else if k=7∨k=8∨k=9 then [false,true,false,true,false] else if k=14∨k=15 then [true,false,false,false,true] else [false,true,false,false,false]):=λb h1 T5=>by
  unfold jX;cases b with
  | true=>rw [zab rfl,zab (h1 rfl)]
  | false =>
   rw [zaa (by simp),zaa (T5 rfl)];by_cases k7:k=7
   ·rw [zab (by simpa using k7)];exact h2 _ (λ_=>.inl k7) (λh=>by simp [k7] at h)
   rw [zaa (by simpa using k7)];by_cases k8:k=8
   ·rw [zab (by simpa using k8)];exact h2 _ (λ_=>.inr (.inl k8)) (λh=>by simp [k8] at h)
   rw [zaa (by simpa using k8)];exact h2 _ (λh=>.inr (.inr (by simpa using h))) (λh=>by rw [zei] at h;omega)
 by_cases k1:k=1
 ·rw [zab (by simpa using k1),zab k1]
 rw [zaa (by simpa using k1),zaa k1];by_cases k2:k=2
 ·rw [zab (by simpa using k2),zab k2]
 rw [zaa (by simpa using k2),zaa k2];by_cases k3:k=3
 ·rw [zab (by simpa using k3),zab k3]
 rw [zaa (by simpa using k3),zaa k3];by_cases k5:k=5
 ·rw [zab (by simpa using k5)];exact h1 _ (λ_=>.inl k5) (λh=>by simp [k5] at h)
 rw [zaa (by simpa using k5)];exact h1 _ (λh=>.inr (by simpa using h)) (λh=>by rw [zei] at h;omega)
theorem WA (s:List UInt8) (hl:s.length<=100000):∃ y,tV s=some y:=by
 unfold tV;by_cases h:(decide ((s.length:Int)<1) || decide ((s.length:Int) > 24))=true
 ·rw [af (by simp [h]),af (by simp [h]),zab (by simp [h])];exact ⟨_,rfl⟩
 ·have h':¬((s.length:Int)<1):=by simp at h;omega
  rw [af (λ_=>⟨by omega,by omega⟩),af (λ_=>⟨by omega,by omega⟩)];split
  ·exact ⟨_,rfl⟩
  ·refine ⟨_,bC (step:=λi:Int=>od s i) s (λi=>i) (λi r=>some (r.all λc=>!((((decide (c<97)) || (decide (c > 122))) && ((decide (c<48)) || (decide (c > 57)))) && (c != 45)))) (λi r=>0<=i) (by omega) ?_ ?_ (s:=0) rfl (by simp)⟩
   ·rintro i h1 h2;refine ⟨_,?_,rfl⟩;unfold od;rw [zaa (by simp only [zah];omega)];simp
   ·rintro i c r h1 h2 h3 h4 h5;unfold od;rw [zab (by simpa using h3),af ⟨h2,h3⟩,af (λ_=>⟨h2,h3⟩),af (λ_=>⟨h2,h3⟩),af (λ_=>⟨h2,h3⟩),af (λ_=>⟨h2,h3⟩),h4];split
    ·rename_i hc;exact .inl ⟨_,rfl,by simp only [zej,hc,zck,zcx]⟩
    ·rename_i hc;rw [af ⟨by omega,by omega⟩];exact .inr ⟨_,rfl,by omega,rfl,by rw [zej,Bool.not_eq_true _ |>.mp hc];rfl⟩
structure Mu (e:Event) (last:Int):Prop where
 kind:1<=e.kind/\e.kind<=15
 at_:last<=e.at_
 sub:¬(e.kind=1∨e.kind=2∨e.kind=14∨e.kind=15)->1<=e.sub/\e.sub<=9999
 num:e.kind=5->e.number≠[]
 acct:e.kind=3->1<=e.aw/\e.aw<=9999
theorem SL (e:Event):∃ y,rK e=some y:=by
 unfold rK;split
 ·exact ⟨_,rfl⟩
 ·split <;> exact ⟨_,rfl⟩
theorem xe {α:Type} [Inhabited α] (b:Bool) (x:α):∃ y,ct b (some x)=some y/\(b=true->y=x):=⟨_,iq,λh=>by rw [zab h]⟩
theorem WC (e:Event) (last:Int) (h1:e.name.length<=1000) (h2:e.number.length<=1000):∃ y,tW e last=some y/\(y=0->Mu e last):=by
 obtain ⟨nb,hnb⟩:=WA e.name (by omega);obtain ⟨vb,WN⟩:=SL e;unfold tW;rw [Q5,hnb,FC _ (by omega),WN];unfold yd;simp only [zac];by_cases c1:(decide (e.kind<1) || decide (e.kind > 15))=true
 ·rw [zab c1];exact ⟨_,rfl,by omega⟩
 rw [zaa c1];by_cases c2:(decide (e.at_<0) || decide (e.at_>=12622780800))=true
 ·rw [zab c2];exact ⟨_,rfl,by omega⟩
 rw [zaa c2];by_cases c3:decide (e.at_<last)=true
 ·rw [zab c3];exact ⟨_,rfl,by omega⟩
 rw [zaa c3];have k1:1<=e.kind/\e.kind<=15:=by simp at c1;omega
 have k2:last<=e.at_:=by simpa using c3
 split
 ·exact ⟨_,rfl,by omega⟩
 obtain ⟨y2,fg,q2⟩:=xe (nth (nE e.kind) 0) (decide (e.aw>=1) && decide (e.aw<=9999));rw [fg,zac];obtain ⟨y3,iP,q3⟩:=xe ((!((nth (nE e.kind) 0) && (!y2))) && (nth (nE e.kind) 1)) (decide (e.sub>=1) && decide (e.sub<=9999));rw [iP,zac];by_cases c5:((nth (nE e.kind) 0 && !y2) || (nth (nE e.kind) 1 && !y3))=true
 ·rw [zab c5];exact ⟨_,rfl,by omega⟩
 rw [zaa c5];obtain ⟨y4,nC,q4⟩:=xe (nth (nE e.kind) 3) nb;rw [nC,zac];split
 ·exact ⟨_,rfl,by omega⟩
 obtain ⟨y5,uA,q5⟩:=xe (nth (nE e.kind) 2) (oR e.number);rw [uA,zac];by_cases c7:(nth (nE e.kind) 2 && !y5)=true
 ·rw [zab c7];exact ⟨_,rfl,by omega⟩
 rw [zaa c7];obtain ⟨y6,Bw,q6⟩:=xe (nth (nE e.kind) 4) vb;rw [Bw,zac];have fin:Mu e last:=by
  refine ⟨k1,k2,λhk=>?_,λhk=>?_,λhk=>?_⟩
  ·have hu:nth (nE e.kind) 1=true:=by
    unfold nE;rw [zaa (by omega),zaa (by omega)];split
    ·rfl
    split
    ·rfl
    split
    ·rfl
    rw [zaa (by omega)];rfl
   have c5a:(nth (nE e.kind) 0 && !y2)=false:=by
    cases hh:(nth (nE e.kind) 0 && !y2) with
    | false=>rfl
    | true=>rw [hh] at c5;simp at c5
   rw [c5a,hu] at q3 c5;have y3t:y3=true:=by cases y3 <;> simp_all
   have:=q3 rfl;rw [y3t] at this;simp at this;omega
  ·have hu:nth (nE e.kind) 2=true:=by
    unfold nE;rw [zaa (by omega),zaa (by omega),zaa (by omega),zab (.inl hk)];rfl
   rw [hu] at c7 q5;have y5t:y5=true:=by cases y5 <;> simp_all
   have hv:=q5 rfl;rw [y5t] at hv;intro hn;rw [hn] at hv;simp [oR] at hv
  ·have hu:nth (nE e.kind) 0=true:=by
    unfold nE;simp [hk,nth]
   rw [hu] at q2 c5;have y2t:y2=true:=by
    cases hh:y2 with
    | true=>rfl
    | false=>rw [hh] at c5;exact absurd rfl c5
   have:=q2 rfl;rw [y2t] at this;simp at this;omega
 split
 ·exact ⟨_,rfl,by omega⟩
 ·exact ⟨_,rfl,λ_=>fin⟩
def FX (b:Bk) (n:Int):Int:=uv (λa:aq=>a.id==n) b.aJ 0
theorem K1 (b:Bk) (e:Event) (n:Nat) (h:BB n b) (hn:n<=10000):∃ y,lD b e=some y/\(y=0->(e.kind=3->kP b e.sub=-1)/\(e.kind≠1->0<=FX b e.aw/\FX b e.aw<(b.aJ.length:Int))):=by
 have ha:=h.Mt;have hs:=h.bm;obtain ⟨by_,Ei⟩:=Wz b e.aw n h hn;unfold lD;rw [C7 b _ (by omega),zac,FW b _ (by omega),Ei];rw [show uv (λa:aq=>a.id==e.aw) b.aJ 0=FX b e.aw from rfl];have sp:(FX b e.aw=-1)∨(0<=FX b e.aw/\FX b e.aw<(b.aJ.length:Int)):=by
  rcases tx (λa:aq=>a.id==e.aw) b.aJ 0 (by omega) with ⟨q,_⟩|⟨q1,q2,_⟩
  ·exact .inl q
  ·exact .inr ⟨q1,by unfold FX;omega⟩
 have sq:kP b e.sub=-1∨0<=kP b e.sub:=by
  rcases tx (λa:Sub=>a.id==e.sub) b.bm 0 (by omega) with ⟨q,_⟩|⟨q1,q2,_⟩
  ·exact .inl q
  ·exact .inr q1
 by_cases k1:e.kind=1
 ·rw [zab (by simpa using k1)];split
  ·exact ⟨_,rfl,by omega⟩
  ·exact ⟨_,rfl,λ_=>⟨by omega,by omega⟩⟩
 rw [zaa (by simpa using k1)];by_cases k2:FX b e.aw<0
 ·rw [zab (by simpa using k2)];exact ⟨_,rfl,by omega⟩
 rw [zaa (by simpa using k2),af (by omega)];split
 ·exact ⟨_,rfl,by omega⟩
 obtain ⟨y2,fg,q2⟩:=xe (e.kind==3) (kP b e.sub);rw [fg,zac];by_cases c2:((e.kind==3) && decide (y2>=0))=true
 ·rw [zab c2];exact ⟨_,rfl,by omega⟩
 rw [zaa c2];obtain ⟨y3,iP,q3⟩:=xe (e.kind==2) by_;rw [iP,zac,af (by intro _;omega)];split
 ·exact ⟨_,rfl,by omega⟩
 refine ⟨_,rfl,λ_=>⟨λk3=>?_,λ_=>by omega⟩⟩;have e2:=q2 (by simpa using k3);rcases sq with q|q
 ·exact q
 ·exact absurd (by simp [k3,e2,q]) c2
theorem SM (b:Bk) (e:Event) (n:Nat) (h:BB n b) (hn:n<=10000):∃ y,rM b e=some y/\(y=0->(0<=kP b e.sub/\kP b e.sub<(b.bm.length:Int))/\e.sub ∉ b.ended/\(e.kind=5->∀ s,s∈b.bm->e.number ∉ s.numbers)):=by
 have hs:=h.bm;have he:=h.ended;unfold rM;rw [FW b _ (by omega),zac];by_cases k1:kP b e.sub<0
 ·rw [zab (by simpa using k1)];exact ⟨_,rfl,by omega⟩
 rw [zaa (by simpa using k1),Er b _ (by omega),zac];by_cases k2:e.sub∈b.ended
 ·rw [zab (by simpa using k2)];exact ⟨_,rfl,by omega⟩
 rw [zaa (by simpa using k2)];have sp:0<=kP b e.sub/\kP b e.sub<(b.bm.length:Int):=by
  rcases tx (λa:Sub=>a.id==e.sub) b.bm 0 (by omega) with ⟨q,_⟩|⟨q1,q2,_⟩
  ·unfold kP at k1;omega
  ·unfold kP;omega
 rw [af sp];have hm:=h.nums _ (p7 (l:=b.bm) (k:=(kP b e.sub).toNat) (by omega));by_cases k5:e.kind=5
 ·rw [zab (by simpa using k5),SK b _ n h hn,zac];split
  ·exact ⟨_,rfl,by omega⟩
  ·rename_i c;refine ⟨_,rfl,λ_=>⟨sp,k2,λ_ s uz hx=>c ?_⟩⟩;rw [zet];exact ⟨s,uz,by simpa using hx⟩
 rw [zaa (by simpa using k5)];have ok:∀ y:Int,∃ z,some y=some z/\(z=0->(0<=kP b e.sub/\kP b e.sub<(b.bm.length:Int))/\e.sub ∉ b.ended/\(e.kind=5->∀ s,s∈b.bm->e.number ∉ s.numbers)):=λy=>⟨y,rfl,λ_=>⟨sp,k2,λk=>absurd k k5⟩⟩
 rw [I4 _ _ (by omega),I4 _ _ (by omega)];simp only [zac];unfold kJ kI
 repeat' split
 all_goals exact ok _
structure Es (b:Bk) (e:Event) (last:Int):Prop where
 form:Mu e last
 acc:e.kind=2->0<=FX b e.aw/\FX b e.aw<(b.aJ.length:Int)
 add:e.kind=3->kP b e.sub=-1
 sub:¬(e.kind=1∨e.kind=2∨e.kind=3∨e.kind=14∨e.kind=15)->(0<=kP b e.sub/\kP b e.sub<(b.bm.length:Int))/\e.sub ∉ b.ended/\(e.kind=5->∀ s,s∈b.bm->e.number ∉ s.numbers)
theorem Ny (b:Bk) (e:Event) (last:Int) (n:Nat) (h:BB n b) (hn:n<=10000) (h1:e.name.length<=1000) (h2:e.number.length<=1000):∃ y,oV b e last=some y/\(y=0->Es b e last):=by
 obtain ⟨y1,e1,q1⟩:=WC e last h1 h2;obtain ⟨y2,e2,q2⟩:=K1 b e n h hn;obtain ⟨y3,e3,q3⟩:=SM b e n h hn;unfold oV;rw [e1,zac,Q5,zac,e2,e3];by_cases c1:y1=0
 ·rw [zaa (by simpa using c1)];have f:=q1 c1;by_cases c2:nth (nE e.kind) 0=true
  ·rw [zab c2];refine ⟨y2,rfl,λh0=>⟨f,λk=>(q2 h0).2 (by omega),λk=>(q2 h0).1 k,λk=>?_⟩⟩;exfalso;unfold nE at c2;rw [zaa (by omega),zaa (by omega),zaa (by omega)] at c2;split at c2
   ·simp [nth] at c2
   split at c2
   ·simp [nth] at c2
   rw [zaa (by omega)] at c2;simp [nth] at c2
  ·rw [zaa c2];have k0:¬(e.kind=1∨e.kind=2∨e.kind=3∨e.kind=14∨e.kind=15):=λk=>c2 (by
    unfold nE;rcases k with k|k|k|k|k <;> simp [k,nth])
   exact ⟨y3,rfl,λh0=>⟨f,λk=>absurd (.inr (.inl k)) k0,λk=>absurd (.inr (.inr (.inl k))) k0,λ_=>q3 h0⟩⟩
 ·rw [zab (by simpa using c1)];exact ⟨y1,rfl,λh0=>absurd h0 c1⟩
def Jl (s:Sub) (e:Event):Sub:=if e.kind=4 then { s with numbers:=[],cz:=[] } else Nu s e
theorem Mv (s:Sub) (e:Event) (h1:s.numbers.length<=100000) (h2:s.cz.length<=100000):og s e=some (Jl s e):=by
 unfold og Jl Nu;by_cases k4:e.kind=4
 ·rw [zab (by simpa using k4),zab k4]
 rw [zaa (by simpa using k4),zaa k4];by_cases k5:e.kind=5
 ·rw [zab (by simpa using k5),Q1 _ _ h1,zab k5];rfl
 rw [zaa (by simpa using k5),zaa k5];by_cases k6:e.kind=6
 ·rw [zab (by simpa using k6),Hy _ _ h1,zab k6];rfl
 rw [zaa (by simpa using k6),zaa k6];by_cases k7:e.kind=7
 ·rw [zab (by simpa using k7),zab k7]
 rw [zaa (by simpa using k7),zaa k7];by_cases k8:e.kind=8
 ·rw [zab (by simpa using k8),Q1 _ _ h2,zab k8];rfl
 rw [zaa (by simpa using k8),zaa k8];by_cases k9:e.kind=9
 ·rw [zab (by simpa using k9),Hy _ _ h2,zab k9];rfl
 rw [zaa (by simpa using k9),zaa k9];by_cases LI:e.kind=10
 ·rw [zab (by simpa using LI),zab LI]
 rw [zaa (by simpa using LI),zaa LI];by_cases Q3:e.kind=11
 ·rw [zab (by simpa using Q3),zab Q3]
 rw [zaa (by simpa using Q3),zaa Q3];by_cases SF:e.kind=12
 ·rw [zab (by simpa using SF),zab SF]
 rw [zaa (by simpa using SF),zaa SF];by_cases SG:e.kind=13
 ·rw [zab (by simpa using SG),zab SG]
 rw [zaa (by simpa using SG),zaa SG]
theorem SN (s:Sub) (e:Event):(Jl s e).numbers.length<=s.numbers.length+1/\(Jl s e).cz.length<=s.cz.length+1:=by
 unfold Jl;split
 ·simp
 ·exact Nv s e
def Q6 (b:Bk) (e:Event):List Sub :=
 if e.kind=3 then b.bm++[AP e]
 else if e.kind=1∨e.kind=2∨e.kind=14∨e.kind=15 then b.bm
 else b.bm.set (kP b e.sub).toNat (Jl (nth b.bm (kP b e.sub).toNat) e)
def OR (b:Bk) (e:Event):List Int:=if e.kind=4 then b.ended++[e.sub] else b.ended
theorem I5 (b:Bk) (e:Event) (last:Int) (n:Nat) (h:BB n b) (hn:n<=10000) (f:Es b e last):∃ b',gP b e=some b'/\BB (n+1) b'/\b'.bm=Q6 b e/\b'.ended=OR b e:=by
 have ha:=h.Mt;have hs:=h.bm;have he:=h.ended;have up:=h.up;unfold gP;rw [af (by omega),af (by omega),af (by omega)];unfold Q6 OR;simp only [zbz];by_cases k1:e.kind=1
 ·have n3:¬e.kind=3:=by omega
  have n4:¬e.kind=4:=by omega
  rw [zab (by simpa using k1),af (by simp only [zan];omega),zaa n3,zab (.inl k1),zaa n4];exact ⟨_,rfl,⟨by simp only [zai,zan];omega,up.bm,up.ended,up.nums⟩,rfl,rfl⟩
 rw [zaa (by simpa using k1)];by_cases k2:e.kind=2
 ·have n3:¬e.kind=3:=by omega
  have n4:¬e.kind=4:=by omega
  have hk:=f.acc k2;rw [zab (by simpa using k2),C7 b _ (by omega),zac,show uv (λa:aq=>a.id==e.aw) b.aJ 0=FX b e.aw from rfl,af hk,af (by omega),zaa n3,zab (.inr (.inl k2)),zaa n4];exact ⟨_,rfl,⟨by simp only [zfr];omega,up.bm,up.ended,up.nums⟩,rfl,rfl⟩
 rw [zaa (by simpa using k2)];by_cases k3:e.kind=3
 ·have n4:¬e.kind=4:=by omega
  rw [zab (by simpa using k3),af (by simp only [zan];omega),zab k3,zaa n4];refine ⟨_,rfl,⟨up.Mt,by simp only [zai,zan];omega,up.ended,λs uz=>?_⟩,rfl,rfl⟩
  simp only [zbi,zca] at uz;rcases uz with uz|rfl
  ·exact up.nums s uz
  ·simp
 rw [zaa (by simpa using k3),zaa k3];have hj:∀ c:Bool,(c=true->e.kind=14∨e.kind=15)->(c=false->¬(e.kind=14∨e.kind=15))->∃ b',jd b e c=some b'/\BB (n+1) b'/\b'.bm=(if e.kind=1∨e.kind=2∨e.kind=14∨e.kind=15 then b.bm else b.bm.set (kP b e.sub).toNat (Jl (nth b.bm (kP b e.sub).toNat) e))/\b'.ended=(if e.kind=4 then b.ended++[e.sub] else b.ended):=λc hc1 W9=>by
  unfold jd;simp only [zbz];cases c with
  | true =>
   have:=hc1 rfl;rw [zab rfl,zab (.inr (.inr this)),zaa (by omega)];exact ⟨_,rfl,up,rfl,rfl⟩
  | false =>
   have:=W9 rfl;obtain ⟨sp,_,_⟩:=f.sub (by omega);have hm:=h.nums _ (p7 (l:=b.bm) (k:=(kP b e.sub).toNat) (by omega));have hc:=SN (nth b.bm (kP b e.sub).toNat) e;rw [zaa (by simp),FW b _ (by omega),zac,af sp,af (by omega),Mv _ _ (by omega) (by omega),zac,af sp,af (by omega)];have KX:∀ s,s∈b.bm.set (kP b e.sub).toNat (Jl (nth b.bm (kP b e.sub).toNat) e)->s.numbers.length<=n+1/\s.cz.length<=n+1:=λs uz=>by
    rcases List.mem_or_eq_of_mem_set uz with h9|rfl
    ·exact up.nums s h9
    ·omega
   rw [zaa (show ¬(e.kind=1∨e.kind=2∨e.kind=14∨e.kind=15) by omega)];by_cases k4:e.kind=4
   ·rw [zab (by simpa using k4),af (by simp only [zan];omega),zab k4];exact ⟨_,rfl,⟨up.Mt,by simp only [zfr];omega,by simp only [zai,zan];omega,KX⟩,rfl,rfl⟩
   ·rw [zaa (by simpa using k4),zaa k4];exact ⟨_,rfl,⟨up.Mt,by simp only [zfr];omega,up.ended,KX⟩,rfl,rfl⟩
 by_cases Nw:e.kind=14
 ·rw [zab (by simpa using Nw)];exact hj _ (λ_=>.inl Nw) (λk=>by simp [Nw] at k)
 ·rw [zaa (by simpa using Nw)];exact hj _ (λk=>.inr (by simpa using k)) (λk=>by rw [zei] at k;omega)
def b0:Bk:=⟨[],[],[]⟩
theorem bb0:BB 0 b0:=⟨by simp [b0],by simp [b0],by simp [b0],λs h=>by simp [b0] at h⟩
def Mw:List Event->Int->Int->Bk->Option (Int×Int)
 | [],_,_,_=>some (0,0)
 | e::l,i,last,b=>(oV b e last).bind λy=>if y≠0 then some (i,y) else (gP b e).bind λb'=>Mw l (i+1) e.at_ b'
def VC:Bk->Int->List Event->Prop
 | _,_,[]=>True
 | b,last,e::l=>Es b e last/\∃ b',gP b e=some b'/\VC b' e.at_ l
def WD (l:List Event):Prop:=∀ e,e∈l->e.name.length<=1000/\e.number.length<=1000
theorem Nz:∀ (l:List Event) (i last:Int) (b:Bk) (n:Nat),BB n b->n+l.length<=10000->WD l->∃ x,Mw l i last b=some x/\(x.2=0->VC b last l)
 | [],i,last,b,n,_,_,_=>⟨_,rfl,λ_=>trivial⟩
 | e::l,i,last,b,n,hb,hl,hs=>by
  rw [zag] at hl;have he:=hs e (zao ..);obtain ⟨y,hy,f⟩:=Ny b e last n hb (by omega) he.1 he.2;unfold Mw;rw [hy,zac];by_cases h0:y=0
  ·rw [zaa (by omega)];obtain ⟨b',ha,kc,_⟩:=I5 b e last n hb (by omega) (f h0);rw [ha,zac];obtain ⟨x,h1,h2⟩:=Nz l (i+1) e.at_ b' (n+1) kc (by omega) (λz hz=>hs z (zal _ hz));exact ⟨x,h1,λh=>⟨f h0,b',ha,h2 h⟩⟩
  ·rw [zab h0];exact ⟨_,rfl,λh=>absurd h h0⟩
theorem Mx (cP:List Event) (hl:cP.length<=1000) (hs:WD cP):rN cP=Mw cP 0 0 b0:=by
 unfold rN;rw [zaa (by simp;omega)];refine bC (step:=λs:Int×Int×List aq×List Sub×List Int=>mH cP s.1 s.2.1 s.2.2.1 s.2.2.2.1 s.2.2.2.2) cP (λs=>s.2.1) (λs r=>Mw r s.2.1 s.1 ⟨s.2.2.1,s.2.2.2.1,s.2.2.2.2⟩)
  (λs r=>0<=s.2.1/\WD r/\∃ n,BB n ⟨s.2.2.1,s.2.2.2.1,s.2.2.2.2⟩/\n+r.length<=10000) (by omega) ?_ ?_ (s:=(0,0,[],[],[])) rfl ⟨by simp,hs,0,bb0,by omega⟩
 ·rintro ⟨last,i,a,s,en⟩ ⟨h1,_⟩ h2
  try simp only at h2
  refine ⟨(0,0),?_,rfl⟩;unfold mH;rw [zaa (by simp only [zah];omega)]
 ·rintro ⟨last,i,a,s,en⟩ e r ⟨h1,tD,n,hb,h2⟩ h3 h4 h5 h6;simp only at h1 h2 h3 h4 h5 h6 hb;rw [zag] at h2;have he:=tD e (zao ..);obtain ⟨y,hy,f⟩:=Ny ⟨a,s,en⟩ e last n hb (by omega) he.1 he.2;unfold mH;simp only;rw [zab (by simpa using h4),af ⟨h3,h4⟩,h5,hy,zac];by_cases h0:y=0
  ·obtain ⟨b',ha,kc,_⟩:=I5 ⟨a,s,en⟩ e last n hb (by omega) (f h0);rw [zaa (by simpa using h0),af ⟨h3,h4⟩,ha,zac,af ⟨h3,h4⟩,af ⟨by omega,by omega⟩];refine .inr ⟨(e.at_,i+1,b'.aJ,b'.bm,b'.ended),rfl,⟨by simp only;omega,λz hz=>tD z (zal _ hz),n+1,kc,by omega⟩,rfl,?_⟩
   simp only;rw [Mw,hy,zac,zaa (by omega),ha,zac]
  ·rw [zab (by simpa using h0)];refine .inl ⟨_,rfl,?_⟩
   try simp only
   rw [Mw,hy,zac,zab h0]
theorem Y3 (cP:List Event):∃ c,v7 cP=some c/\(c=true->cP.length<=40/\WD cP/\VC b0 0 cP):=by
 unfold v7;refine ti (step:=λs:Int=>ta cP s) (λc=>c=true->cP.length<=40/\WD cP/\VC b0 0 cP) (λi=>0<=i/\i<=(cP.length:Int)/\i<=41/\WD (cP.take i.toNat)) (λi=>(41-i).toNat) ?_ (s:=0) ⟨by omega,by omega,by omega,λe h=>by simp at h⟩ (by omega);rintro i ⟨h0,h1,h2,h3⟩;unfold ta;by_cases hc:i<(cP.length:Int)/\i<41
 ·rw [zab (by simpa using hc),af ⟨h0,hc.1⟩,af (λ_=>⟨h0,hc.1⟩)];split
  ·exact .inl ⟨_,rfl,λh=>by simp at h⟩
  ·rename_i hb;rw [af ⟨by omega,by omega⟩];refine .inr ⟨i+1,rfl,⟨by omega,by omega,by omega,?_⟩,by omega⟩;rw [show (i+1).toNat=i.toNat+1 from by omega,rq (by omega)];intro e he;rcases zbi.1 he with he|he
   ·exact h3 e he
   ·rw [zca.1 he];simp at hb;omega
 ·rw [zaa (by simpa using hc)];unfold pM;by_cases h40:(cP.length:Int) > 40
  ·rw [zab (by simpa using h40)];exact .inl ⟨_,rfl,λh=>by simp at h⟩
  ·rw [zaa (by simpa using h40)];have hs:WD cP:=by
    have:cP.take i.toNat=cP:=zcc (by omega);rw [this] at h3;exact h3
   obtain ⟨x,hx,hv⟩:=Nz cP 0 0 b0 0 bb0 (by omega) hs;rw [Mx cP (by omega) hs,hx];exact .inl ⟨_,rfl,λh=>⟨by omega,hs,hv (by simpa using h)⟩⟩
theorem HA {n:Nat} {w:W7} (h:WB n w):∀ s,s∈jK w->s.numbers.length<=n:=λs hs=>by
 obtain ⟨k,_,hk⟩:=List.mem_filterMap.1 hs;exact (h.nums k s hk).1
theorem K2 {n:Nat} {w:W7} (h:WB n w):(jK w).length<=n:=zcz (List.length_filterMap_le ..) h.added
theorem Q7 (cP:List Event) (r:aa) (id:Int) (hl:cP.length<=5000) (hs:Sm r):∃ w,KY r.start cP w0=some w/\fU cP r id=some (I3 (jK w) r id):=by
 obtain ⟨w,a,h1,h2,h3⟩:=SH cP r.start hl;have:=SJ cP r id ⟨a,jK w⟩ h3 (by have:=K2 h2;simp only;omega) (λs uz=>by have:=HA h2 s uz;omega) hs;exact ⟨w,h1,this⟩
theorem Q8 (u:aA):eI (aA.bR u) (aA.bR u)=true:=by
 simp [aA.bR,eI,LJ]
abbrev sG (b:Bk):List Int:=b.bm.map (·.id)
structure wm (n:Nat) (w:W7) (b:Bk):Prop where
 wb:WB n w
 bb:BB n b
 ids:(sG b).Nodup
 Xb:w.2.1.Pairwise (· < ·)
 mem:∀ k,k∈w.2.1↔k∈sG b
 ev:∀ k,(aC w.2.2.2.2.1 k).getD false=true↔k∈sG b
 look:∀ s,s∈b.bm->aC w.2.2.2.1 s.id=if s.id∈b.ended then none else some s
 keys:∀ k,k ∉ sG b->aC w.2.2.2.1 k=none
 Xc:∀ k,k∈sG b->1<=k/\k<=9999
 Q9:b.ended.Nodup
 OS:∀ k,k∈b.ended->k∈sG b
 num:∀ s s' x,s∈b.bm->s'∈b.bm->x∈s.numbers->x∈s'.numbers->s.id=s'.id
 ne:∀ s,s∈b.bm->[] ∉ s.numbers
 acc:∀ s,s∈b.bm->1<=s.aw/\s.aw<=9999
theorem inv0:wm 0 w0 b0:=⟨wb0,bb0,by simp [sG,b0],by simp [w0],λk=>by simp [w0,b0],λk=>by simp [w0,b0,aC],λs h=>by simp [b0] at h,λk _=>by simp [w0,aC],λk h=>by simp [b0] at h,by simp [b0],λk h=>by simp [b0] at h,λs s' x h=>by simp [b0] at h,λs h=>by simp [b0] at h,λs h=>by simp [b0] at h⟩
theorem NA (f:Sub->Int) (y:Sub):∀ (l:List Sub) (i:Nat),i<l.length->f y=f (nth l i)->(l.set i y).map f=l.map f
 | [],i,h,_=>by simp at h
 | a::l,0,_,h=>by rw [lL] at h;simp [h]
 | a::l,i+1,h,hy=>by
  rw [j0] at hy;rw [List.set_cons_succ,zap,zap,NA f y l i (by rw [zag] at h;omega) hy]
theorem NB (y:Sub):∀ (l:List Sub) (i:Nat),i<l.length->(l.map (·.id)).Nodup->y.id=(nth l i).id->∀ s,s∈l.set i y->s=y∨(s∈l/\s.id≠y.id)
 | [],i,h,_,_,_,_=>by simp at h
 | a::l,0,_,hn,h,s,hs=>by
  rw [lL] at h;rw [List.set_cons_zero,zav] at hs;rw [zap,zbs] at hn;rcases hs with hs|hs
  ·exact .inl hs
  ·exact .inr ⟨zal _ hs,λe=>hn.1 (by rw [←h,←e];exact zcn hs)⟩
 | a::l,i+1,h,hn,hy,s,hs=>by
  rw [j0] at hy;rw [zag] at h;rw [List.set_cons_succ,zav] at hs;rw [zap,zbs] at hn;rcases hs with rfl|hs
  ·exact .inr ⟨zao ..,λe=>hn.1 (by rw [e,hy];exact zcn (p7 (by omega)))⟩
  ·rcases NB y l i (by omega) hn.2 hy s hs with h1|⟨h1,h2⟩
   ·exact .inl h1
   ·exact .inr ⟨zal _ h1,h2⟩
theorem WE (s:Sub) (e:Event):(Nu s e).id=s.id:=by
 unfold Nu;repeat' split
 all_goals rfl
theorem WG (s:Sub) (e:Event):(Jl s e).id=s.id:=by
 unfold Jl;split
 ·rfl
 ·exact WE s e
theorem SO (s:Sub) (e:Event):(Jl s e).aw=s.aw:=by
 unfold Jl Nu;repeat' split
 all_goals rfl
theorem SP (x z:List UInt8) (l:List (List UInt8)) (h:z∈GU x l):z∈l:=(zcj.1 h).1
theorem FY (s:Sub) (e:Event):∀ x,x∈(Jl s e).numbers->(e.kind=5/\x=e.number)∨x∈s.numbers:=λx hx=>by
 unfold Jl Nu at hx
 repeat' split at hx
 all_goals first|(simp at hx;done)|exact .inr hx|skip
 ·rename_i k5;rcases (Ep _ _ _ _).1 hx with h|h
  ·exact .inl ⟨k5,h⟩
  ·exact .inr h
 ·exact .inr (SP _ _ _ hx)
theorem yX (b:Bk) (k:Int):(kP b k=-1/\k ∉ sG b)∨(0<=kP b k/\kP b k<(b.bm.length:Int)/\(nth b.bm (kP b k).toNat).id=k):=by
 rcases tx (λa:Sub=>a.id==k) b.bm 0 (by omega) with ⟨q,h⟩|⟨q1,q2,q3⟩
 ·refine .inl ⟨q,λhm=>?_⟩;obtain ⟨s,h1,h2⟩:=zdh.1 hm;have:=h s h1;simp [h2] at this
 ·refine .inr ⟨q1,by unfold kP;omega,?_⟩;rw [show (uv (λa:Sub=>a.id==k) b.bm 0-0).toNat=(kP b k).toNat from by unfold kP;omega] at q3;simpa using q3
theorem NC (x:Int):∀ (l:List Int),l.Pairwise (· < ·)->x ∉ l->(wk GS x l).Pairwise (· < ·)
 | [],_,_=>by simp [wk]
 | y::t,h,hx=>by
  rw [zbn] at h;rw [zav,not_or] at hx;unfold wk;by_cases hy:GS y x=true
  ·rw [zab hy,zbn];refine ⟨λz hz=>?_,NC x t h.2 hx.2⟩;rcases (Ep _ _ _ _).1 hz with rfl|hz
   ·simpa [GS] using hy
   ·exact h.1 z hz
  ·rw [zaa hy,zbn,zbn];have cZ:x<y:=by simp [GS] at hy;omega
   refine ⟨λz hz=>?_,h⟩;rcases zav.1 hz with rfl|hz
   ·exact cZ
   ·have:=h.1 z hz;omega
theorem wm.up {n:Nat} {w:W7} {b:Bk} (h:wm n w b):wm (n+1) w b:={ h with wb:=h.wb.up,bb:=h.bb.up }
theorem wm.find {n:Nat} {w:W7} {b:Bk} (h:wm n w b) {s s':Sub} (hs:s∈b.bm) (uz:s'∈b.bm) (e:s.id=s'.id):s=s':=by
 have key:∀ (l:List Sub),(l.map (·.id)).Nodup->s∈l->s'∈l->s=s':=by
  intro l
  induction l with
  | nil=>intro _ h;simp at h
  | cons a l ih =>
   intro hn h1 h2;rw [zap,zbs] at hn;rcases zav.1 h1 with h3|h3
   ·rcases zav.1 h2 with h4|h4
    ·rw [h3,h4]
    ·exact absurd (by rw [←h3,e];exact zcn h4) hn.1
   ·rcases zav.1 h2 with h4|h4
    ·exact absurd (by rw [←h4,←e];exact zcn h3) hn.1
    ·exact ih hn.2 h3 h4
 exact key _ h.ids hs uz
theorem Ra (n:Nat) (w:W7) (b:Bk) (e:Event) (last:Int) (h:wm n w b) (hn:n<=10000) (f:Es b e last):∃ w' b',Zt e w=some w'/\gP b e=some b'/\wm (n+1) w' b':=by
 obtain ⟨w',e1,hw,ea,es,ee⟩:=I0 n e w h.wb hn;obtain ⟨b',e2,hb,bs,be⟩:=I5 b e last n h.bb hn f;refine ⟨w',b',e1,e2,?_⟩;by_cases k0:e.kind=1∨e.kind=2∨e.kind=14∨e.kind=15
 ·have n3:¬e.kind=3:=by omega
  have n4:¬e.kind=4:=by omega
  unfold Q2 at ea;rw [zaa (λk=>n3 k.1)] at ea;unfold OP at es;rw [zaa n3,zaa n4,zab k0] at es;unfold Y1 at ee;rw [zaa n3] at ee;unfold Q6 at bs;rw [zaa n3,zab k0] at bs;unfold OR at be;rw [zaa n4] at be;have hi:sG b'=sG b:=by unfold sG;rw [bs]
  exact ⟨hw,hb,by rw [hi];exact h.ids,by rw [ea];exact h.Xb,by rw [ea,hi];exact h.mem,by rw [ee,hi];exact h.ev,by rw [es,bs,be];exact h.look,by rw [es,hi];exact h.keys,by rw [hi];exact h.Xc,by rw [be];exact h.Q9,by rw [be,hi];exact h.OS,by rw [bs];exact h.num,by rw [bs];exact h.ne,by rw [bs];exact h.acc⟩
 by_cases k3:e.kind=3
 ·have n4:¬e.kind=4:=by omega
  have hadd:=f.add k3;have Y4:e.sub ∉ sG b:=by
   rcases yX b e.sub with ⟨_,q⟩|⟨q,_⟩
   ·exact q
   ·omega
  have hr:=f.form.sub k0;have Po:(aC w.2.2.2.2.1 e.sub).getD false=false:=by
   cases hh:(aC w.2.2.2.2.1 e.sub).getD false with
   | false=>rfl
   | true=>exact absurd ((h.ev _).1 hh) Y4
  unfold Q2 at ea;rw [zab ⟨k3,Po⟩] at ea;unfold OP at es;rw [zab k3] at es;unfold Y1 at ee;rw [zab k3] at ee;unfold Q6 at bs;rw [zab k3] at bs;unfold OR at be;rw [zaa n4] at be;have hi:sG b'=sG b++[e.sub]:=by unfold sG;rw [bs,zdm];rfl
  have fh:e.sub ∉ b.ended:=λk=>Y4 (h.OS _ k)
  refine ⟨hw,hb,?_,?_,?_,?_,?_,?_,?_,?_,?_,?_,?_,?_⟩
  ·rw [hi,zdf];exact ⟨h.ids,by simp,λa ha c hc=>by rw [zca.1 hc];exact λq=>Y4 (q▸ha)⟩
  ·rw [ea];exact NC _ _ h.Xb (λk=>Y4 ((h.mem _).1 k))
  ·intro k;rw [ea,Ep,hi,zbi,zca,h.mem k];exact Or.comm
  ·intro k;rw [ee,fw,hi,zbi,zca];by_cases hk:k=e.sub
   ·simp [hk]
   ·rw [zaa (by simpa using hk),h.ev k];simp [hk]
  ·intro s hs;rw [bs,zbi,zca] at hs;rw [es,be,fw];rcases hs with hs|rfl
   ·have:s.id≠e.sub:=λq=>Y4 (by rw [←q];exact zcn hs);rw [zaa (by simpa using this)];exact h.look s hs
   ·rw [zab (by simp [AP]),zaa (by simpa [AP] using fh)]
  ·intro k hk;rw [hi,zbi,zca,not_or] at hk;rw [es,fw,zaa (by simpa using hk.2)];exact h.keys k hk.1
  ·intro k hk;rw [hi,zbi,zca] at hk;rcases hk with hk|rfl
   ·exact h.Xc k hk
   ·exact hr
  ·rw [be];exact h.Q9
  ·intro k hk;rw [be] at hk;rw [hi,zbi];exact .inl (h.OS k hk)
  ·intro s s' x hs uz hx jL;rw [bs,zbi,zca] at hs uz;rcases hs with hs|rfl
   ·rcases uz with uz|rfl
    ·exact h.num s s' x hs uz hx jL
    ·simp [AP] at jL
   ·simp [AP] at hx
  ·intro s hs;rw [bs,zbi,zca] at hs;rcases hs with hs|rfl
   ·exact h.ne s hs
   ·simp [AP]
  ·intro s hs;rw [bs,zbi,zca] at hs;rcases hs with hs|rfl
   ·exact h.acc s hs
   ·exact f.form.acct k3
 obtain ⟨⟨s0,s1⟩,fh,h5⟩:=f.sub (by omega);have hid:(nth b.bm (kP b e.sub).toNat).id=e.sub:=by
  rcases yX b e.sub with ⟨q,_⟩|⟨_,_,q⟩
  ·omega
  ·exact q
 have Pd:nth b.bm (kP b e.sub).toNat∈b.bm:=p7 (by omega);have cZ:(kP b e.sub).toNat<b.bm.length:=by omega
 generalize l8:(kP b e.sub).toNat=i at hid Pd cZ;generalize Li:nth b.bm i=s at hid Pd;unfold Q2 at ea;rw [zaa (λk=>k3 k.1)] at ea;unfold Y1 at ee;rw [zaa k3] at ee;unfold Q6 at bs;rw [zaa k3,zaa k0,l8,Li] at bs;have qQ:(Jl s e).id=s.id:=WG s e;have hi:sG b'=sG b:=by unfold sG;rw [bs];exact NA _ _ _ _ cZ (by rw [Li];exact qQ)
 have sW:∀ z,z∈b'.bm->z=Jl s e∨(z∈b.bm/\z.id≠e.sub):=λz hz=>by
  rw [bs] at hz;have:=NB _ _ _ cZ h.ids (by rw [Li];exact qQ) z hz
  rwa [qQ,hid] at this
 have hnn:∀ z z' x,z∈b'.bm->z'∈b'.bm->x∈z.numbers->x∈z'.numbers->z.id=z'.id:=λz z' x hz Ac hx jL=>by
  rcases sW z hz with rfl|⟨hz,Y5⟩
  ·rcases sW z' Ac with rfl|⟨Ac,hzi'⟩
   ·rfl
   ·rcases FY s e x hx with ⟨k5,rfl⟩|hx
    ·exact absurd jL (h5 k5 z' Ac)
    ·rw [qQ];exact h.num s z' x Pd Ac hx jL
  ·rcases sW z' Ac with rfl|⟨Ac,hzi'⟩
   ·rcases FY s e x jL with ⟨k5,rfl⟩|jL
    ·exact absurd hx (h5 k5 z hz)
    ·rw [qQ];exact h.num z s x hz Pd hx jL
   ·exact h.num z z' x hz Ac hx jL
 have o4:∀ z,z∈b'.bm->[] ∉ z.numbers:=λz hz hx=>by
  rcases sW z hz with rfl|⟨hz,_⟩
  ·rcases FY s e [] hx with ⟨k5,hx⟩|hx
   ·exact f.form.num k5 hx.symm
   ·exact h.ne s Pd hx
  ·exact h.ne z hz hx
 have TQ:∀ z,z∈b'.bm->1<=z.aw/\z.aw<=9999:=λz hz=>by
  rcases sW z hz with rfl|⟨hz,_⟩
  ·rw [SO];exact h.acc s Pd
  ·exact h.acc z hz
 have Y6:e.sub∈sG b:=by rw [←hid];exact zcn Pd
 by_cases k4:e.kind=4
 ·unfold OP at es;rw [zaa k3,zab k4] at es;unfold OR at be;rw [zab k4] at be;refine ⟨hw,hb,by rw [hi];exact h.ids,by rw [ea];exact h.Xb,by rw [ea,hi];exact h.mem,by rw [ee,hi];exact h.ev,?_,?_,by rw [hi];exact h.Xc,?_,?_,hnn,o4,TQ⟩
  ·intro z hz;rw [es,be,te _ _ h.wb.keys];rcases sW z hz with rfl|⟨hz,Y5⟩
   ·rw [qQ,hid,zab (by simp),zab (by simp)]
   ·rw [zaa (by simpa using Y5),h.look z hz];simp [Y5]
  ·intro k hk;rw [hi] at hk;rw [es,te _ _ h.wb.keys];split
   ·rfl
   ·exact h.keys k hk
  ·rw [be,zdf];exact ⟨h.Q9,by simp,λa ha c hc=>by rw [zca.1 hc];exact λq=>fh (q▸ha)⟩
  ·intro k hk;rw [be,zbi,zca] at hk;rw [hi];rcases hk with hk|rfl
   ·exact h.OS k hk
   ·exact Y6
 ·unfold OP at es;rw [zaa k3,zaa k4,zaa k0] at es;unfold OR at be;rw [zaa k4] at be;have hl:=h.look s Pd;rw [hid,zaa fh] at hl;rw [hl] at es;simp only at es;have O5:Jl s e=Nu s e:=by unfold Jl;rw [zaa k4]
  refine ⟨hw,hb,by rw [hi];exact h.ids,by rw [ea];exact h.Xb,by rw [ea,hi];exact h.mem,by rw [ee,hi];exact h.ev,?_,?_,by rw [hi];exact h.Xc,by rw [be];exact h.Q9,by rw [be,hi];exact h.OS,hnn,o4,TQ⟩
  ·intro z hz;rw [es,be,fw];rcases sW z hz with rfl|⟨hz,Y5⟩
   ·rw [qQ,hid,zab (by simp),zaa fh,O5]
   ·rw [zaa (by simpa using Y5)];exact h.look z hz
  ·intro k hk;rw [hi] at hk;have:k≠e.sub:=λq=>hk (q▸Y6)
   rw [es,fw,zaa (by simpa using this)];exact h.keys k hk
def Ln (t:Int):List Event->Bk->Option Bk
 | [],b=>some b
 | e::l,b=>if e.at_<=t then (gP b e).bind (Ln t l) else Ln t l b
theorem K3:∀ (l:List Event) (b:Bk) (last:Int),VC b last l->∀ e,e∈l->last<=e.at_
 | [],_,_,_,e,h=>by simp at h
 | a::l,b,last,h,e,he=>by
  obtain ⟨f,b',_,hv⟩:=h;have h1:=f.form.at_;rcases zav.1 he with rfl|he
  ·exact h1
  ·have:=K3 l b' a.at_ hv e he;omega
theorem K4 (t:Int) (w:W7) (b:Bk):∀ (l:List Event),(∀ e,e∈l->t<e.at_)->KY t l w=some w/\Ln t l b=some b
 | [],_=>⟨rfl,rfl⟩
 | e::l,h=>by
  have he:=h e (zao ..);rw [KY,zaa (by omega),Ln,zaa (by omega)];exact K4 t w b l λz hz=>h z (zal _ hz)
theorem Rb {n m:Nat} {w:W7} {b:Bk} (h:wm n w b) (hm:n<=m):wm m w b:=by
 induction m with
 | zero=>rwa [show n=0 from by omega] at h
 | succ m ih =>
  by_cases e:n=m+1
  ·rwa [e] at h
  ·exact (ih (by omega)).up
theorem ND (t:Int):∀ (l:List Event) (n:Nat) (w:W7) (b:Bk) (last:Int),wm n w b->n+l.length<=10000->VC b last l->∃ w' b',KY t l w=some w'/\Ln t l b=some b'/\wm (n+l.length) w' b'
 | [],n,w,b,_,h,_,_=>⟨w,b,rfl,rfl,h⟩
 | e::l,n,w,b,last,h,hn,hv=>by
  have LD:=hv;obtain ⟨f,b1,Js,hv⟩:=hv;rw [zag] at hn ⊢;by_cases ht:e.at_<=t
  ·obtain ⟨w',b',e1,e2,hi⟩:=Ra n w b e last h (by omega) f;rw [Js] at e2;cases e2;obtain ⟨w2,b2,q1,q2,q3⟩:=ND t l (n+1) w' b1 e.at_ hi (by omega) hv;refine ⟨w2,b2,?_,?_,?_⟩
   ·rw [KY,zab ht,e1];exact q1
   ·rw [Ln,zab ht,Js];exact q2
   ·rw [show n+(l.length+1)=n+1+l.length from by omega];exact q3
  ·have hs:∀ z,z∈e::l->t<z.at_:=λz hz=>by
    rcases zav.1 hz with rfl|hz
    ·omega
    ·have:=K3 l b1 e.at_ hv z hz;omega
   obtain ⟨q1,q2⟩:=K4 t w b _ hs;exact ⟨w,b,q1,q2,Rb h (by omega)⟩
theorem Rc (cP:List Event) (t:Int) (b:Bk) (hl:cP.length<=10000) (h:Ln t cP b0=some b):qH cP t=some b:=by
 unfold qH;rw [←h];refine bC (step:=λs:Int×List aq×List Sub×List Int=>oh cP t s.1 s.2.1 s.2.2.1 s.2.2.2) cP (λs=>s.1) (λs r=>Ln t r ⟨s.2.1,s.2.2.1,s.2.2.2⟩) (λs r=>0<=s.1/\Ln t r ⟨s.2.1,s.2.2.1,s.2.2.2⟩=some b) (by omega) ?_ ?_ (s:=(0,[],[],[])) rfl ⟨by simp,h⟩
 ·rintro ⟨i,a,s,en⟩ ⟨h1,_⟩ h2;simp only at h1 h2;refine ⟨_,?_,rfl⟩;unfold oh;rw [zaa (by simp only [zah];omega)]
 ·rintro ⟨i,a,s,en⟩ e r ⟨h1,h2⟩ h3 h4 h5 h6;simp only at h1 h2 h3 h4 h5 h6;unfold oh;simp only;rw [zab (by simpa using h4),af ⟨h3,h4⟩,h5];rw [Ln] at h2 ⊢;by_cases ha:e.at_<=t
  ·rw [zab ha] at h2 ⊢;rw [zab (by simpa using ha),af ⟨h3,h4⟩];cases hb:gP ⟨a,s,en⟩ e with
   | none=>rw [hb] at h2;cases h2
   | some b' =>
    rw [hb] at h2;rw [zac,af ⟨by omega,by omega⟩];exact .inr ⟨(i+1,b'.aJ,b'.bm,b'.ended),rfl,⟨by simp only;omega,h2⟩,rfl,rfl⟩
  ·rw [zaa ha] at h2 ⊢;rw [zaa (by simpa using ha),af ⟨by omega,by omega⟩];exact .inr ⟨(i+1,a,s,en),rfl,⟨by simp only;omega,h2⟩,rfl,rfl⟩
theorem HB:∀ (l m:List Int),l.Nodup->(∀ k,k∈l->k∈m)->l.length<=m.length
 | [],m,_,_=>by simp
 | a::l,m,hn,h=>by
  rw [zbs] at hn;have ha:=h a (zao ..);have:=HB l (m.erase a) hn.2 (λk hk=>(List.mem_erase_of_ne (λq=>hn.1 (by rw [←q];exact hk))).2 (h k (zal _ hk)));rw [List.length_erase_of_mem ha] at this;have:=List.length_pos_of_mem ha;rw [zag];omega
section state
variable {n:Nat} {w:W7} {b:Bk}
theorem wm.NG (h:wm n w b) {k:Int} {s:Sub} (hs:aC w.2.2.2.1 k=some s):s∈b.bm/\s.id=k/\k ∉ b.ended:=by
 by_cases hk:k∈sG b
 ·obtain ⟨z,h1,h2⟩:=zdh.1 hk;have:=h.look z h1;rw [h2,hs] at this;split at this
  ·cases this
  ·cases this;exact ⟨h1,h2,by assumption⟩
 ·rw [h.keys k hk] at hs;cases hs
theorem wm.OT (h:wm n w b) {k:Int} (hk:k∈sG b) (he:k ∉ b.ended):∃ s,aC w.2.2.2.1 k=some s/\s∈b.bm/\s.id=k:=by
 obtain ⟨z,h1,h2⟩:=zdh.1 hk;have:=h.look z h1;rw [h2,zaa he] at this;exact ⟨z,this,h1,h2⟩
theorem wm.HC (h:wm n w b) {k:Int} (he:k∈b.ended):aC w.2.2.2.1 k=none:=by
 cases hs:aC w.2.2.2.1 k with
 | none=>rfl
 | some s=>exact absurd he (h.NG hs).2.2
theorem wm.K5 (h:wm n w b):∀ (l:List Int),(∀ k,k∈l->k∈sG b)->(l.filterMap (aC w.2.2.2.1)).map (·.id)=l.filter λk=>decide (k ∉ b.ended)
 | [],_=>rfl
 | k::l,hl=>by
  have ih:=wm.K5 h l λz hz=>hl z (zal _ hz)
  by_cases he:k∈b.ended
  ·rw [zdu,h.HC he,zbo,zaa (by simpa using he)];exact ih
  ·obtain ⟨s,h1,_,h3⟩:=h.OT (hl k (zao ..)) he;rw [zdu,h1,zbo,zab (by simpa using he),zap,ih,h3]
theorem wm.I6 (h:wm n w b):(jK w).map (·.id)=w.2.1.filter λk=>decide (k ∉ b.ended):=h.K5 _ λk hk=>(h.mem k).1 hk
theorem wm.addN (h:wm n w b):w.2.1.Nodup:=h.Xb.imp λh=>by omega
theorem wm.TS (h:wm n w b):((jK w).map (·.id)).Nodup:=by rw [h.I6];exact List.Pairwise.filter _ h.addN
theorem wm.B2 (h:wm n w b) {s:Sub} (hs:s∈jK w):s∈b.bm/\s.id ∉ b.ended:=by
 obtain ⟨k,_,hk⟩:=List.mem_filterMap.1 hs;obtain ⟨h1,h2,h3⟩:=h.NG hk;exact ⟨h1,by rw [h2];exact h3⟩
theorem wm.count (h:wm n w b):(jK w).length+b.ended.length<=b.bm.length:=by
 have:=HB ((jK w).map (·.id)++b.ended) (sG b) (by
  rw [zdf];refine ⟨h.TS,h.Q9,λa ha c hc=>?_⟩;rw [h.I6,zcj] at ha;intro q;have:=ha.2;simp at this;exact this (q▸hc)) (λk hk=>by
  rcases zbi.1 hk with hk|hk
  ·rw [h.I6,zcj] at hk;exact (h.mem k).1 hk.1
  ·exact h.OS k hk)
 simpa [sG] using this
theorem filter_lt:∀ (l:List Int) (k:Int),l.Pairwise (· < ·)->l.filter (λz=>decide (z<k+1))=l.filter (λz=>decide (z<k))++if k∈l then [k] else []
 | [],k,_=>rfl
 | a::l,k,h=>by
  rw [zbn] at h;have ih:=filter_lt l k h.2;by_cases h1:a<k
  ·rw [zbo,zab (by simp;omega),zbo,zab (by simp;omega),ih,List.cons_append];have:(k∈a::l)=(k∈l):=by simp;intro q;omega
   simp only [this]
  ·have hz:∀ z,z∈l->¬z<k:=λz hz=>by have:=h.1 z hz;omega
   have e1:l.filter (λz=>decide (z<k))=[]:=zde.2 λz Ac=>by simpa using hz z Ac
   by_cases h2:a=k
   ·have e2:l.filter (λz=>decide (z<k+1))=[]:=zde.2 λz Ac=>by have:=h.1 z Ac;simp;omega
    rw [zbo,zab (by simp;omega),zbo,zaa (by simp;omega),e1,e2,h2,zab (zao ..)];rfl
   ·have hk:k ∉ l:=λq=>hz k q (by have:=h.1 k q;omega);rw [zbo,zaa (by simp;omega),zbo,zaa (by simp;omega),ih];have:k ∉ a::l:=by simp;exact ⟨λq=>h2 q.symm,hk⟩
    rw [zaa hk,zaa this]
theorem WH (b:Bk) (L:List Sub) (h1:b.aJ.length<=100000) (h2:L.length<=100000):∃ a,kL b L=some ⟨a,L⟩:=by
 unfold kL;have:=ti (step:=λs:Int×List aq=>pO b L s.1 s.2) (λc=>c.bm=L) (λs=>1<=s.1/\s.1<=10000/\s.2.length<=100000) (λs=>(10000-s.1).toNat) ?_ (s:=(1,[])) ⟨by omega,by omega,by simp⟩ (by omega)
 ·obtain ⟨c,hc,e⟩:=this;exact ⟨c.aJ,by rw [hc,←e]⟩
 rintro ⟨k,a⟩ ⟨k1,k2,k3⟩;simp only at k1 k2 k3;unfold pO;by_cases c:k<=9999/\(a.length:Int)<(b.aJ.length:Int)
 ·rw [zab (by simpa using c),C7 b k (by omega),zac];split
  ·rw [af ⟨by omega,by omega⟩];exact .inr ⟨(k+1,a),rfl,⟨by simp only;omega,by simp only;omega,k3⟩,by simp only;omega⟩
  ·rename_i hn;have sp:0<=uv (λa:aq=>a.id==k) b.aJ 0/\uv (λa:aq=>a.id==k) b.aJ 0<(b.aJ.length:Int):=by
    simp at hn;rcases tx (λa:aq=>a.id==k) b.aJ 0 (by omega) with ⟨q,_⟩|⟨q1,q2,_⟩
    ·omega
    ·omega
   rw [af sp];generalize uv (λa:aq=>a.id==k) b.aJ 0=y;have:=ti (step:=λs:Int×List Int=>pN b L k a y s.1 s.2) (λr=>∃ x,r=.inl (k+1,a++[x])) (λs=>0<=s.1/\s.1<=(L.length:Int)/\(s.2.length:Int)<=s.1) (λs=>((L.length:Int) - s.1).toNat) ?_ (s:=(0,[])) ⟨by simp,by simp,by simp⟩ (by simp;omega)
   ·obtain ⟨r,hr,x,rfl⟩:=this;exact .inr ⟨(k+1,a++[x]),hr,⟨by simp only;omega,by simp only;omega,by simp only [zai,zan];omega⟩,by simp only;omega⟩
   rintro ⟨i,o⟩ ⟨i1,i2,i3⟩;simp only at i1 i2 i3;unfold pN;by_cases hi:i<(L.length:Int)
   ·rw [zab (by simpa using hi),af ⟨i1,hi⟩];split
    ·rw [af ⟨i1,hi⟩,af (by simp only [zan];omega),af ⟨by omega,by omega⟩];exact .inr ⟨(i+1,o++[(nth L i.toNat).id]),rfl,⟨by simp only;omega,by simp only;omega,by simp only [zai,zan];omega⟩,by simp only;omega⟩
    ·rw [af ⟨by omega,by omega⟩];exact .inr ⟨(i+1,o),rfl,⟨by simp only;omega,by simp only;omega,by simp only;omega⟩,by simp only;omega⟩
   ·rw [zaa (by simpa using hi)];unfold mI;rw [af (by simp only [zan];omega),af ⟨by omega,by omega⟩];exact .inl ⟨_,rfl,_,rfl⟩
 ·rw [zaa (by simpa using c)];exact .inl ⟨_,rfl,rfl⟩
theorem Re (cP:List Event) (t:Int) (hl:cP.length<=10000) (hu:Ln t cP b0=some b) (h:wm n w b) (hn:n<=10000):∃ a,rO cP t=some ⟨a,jK w⟩:=by
 unfold rO;rw [Rc cP t b hl hu,zac];have hs:=h.bb.bm;have ha:=h.bb.Mt;have he:=h.bb.ended;have hc:=h.count
 let A:Int->List Sub:=λk=>(w.2.1.filter λz=>decide (z<k)).filterMap (aC w.2.2.2.1)
 have sub:∀ k,(A k).Sublist (jK w):=λk=>List.Sublist.filterMap _ (List.filter_sublist ..)
 have lenA:∀ k,(A k).length<=(jK w).length:=λk=>(sub k).length_le
 have:=ti (step:=λs:Int×List Sub=>kM b s.1 s.2) (λc=>c.bm=jK w) (λs=>1<=s.1/\s.1<=10000/\s.2=A s.1) (λs=>(10000-s.1).toNat) ?_ (s:=(1,[])) ⟨by omega,by omega,?_⟩ (by omega)
 ·obtain ⟨c,hc,e⟩:=this;exact ⟨c.aJ,by rw [hc,←e]⟩
 ·rintro ⟨k,l⟩ ⟨k1,k2,k3⟩;simp only at k1 k2 k3;subst k3;have hlA:=lenA k;unfold kM;rw [af (λ_=>⟨by omega,by omega⟩)];by_cases c:k<=9999/\((A k).length:Int)<(b.bm.length:Int) - (b.ended.length:Int)
  ·rw [zab (by simpa using c),FW b k (by omega),zac,Er b k (by omega),iq,zac];have hA:A (k+1)=A k++(if k∈w.2.1 then [k] else []).filterMap (aC w.2.2.2.1):=by
    show (w.2.1.filter λz=>decide (z<k+1)).filterMap _=_;rw [filter_lt _ _ h.Xb,List.filterMap_append]
   rcases yX b k with ⟨q1,q2⟩|⟨q1,q2,q3⟩
   ·rw [q1];simp only [show decide ((-1:Int)>=0)=false from rfl,zcx,zbf,zbw];rw [af ⟨by omega,by omega⟩];refine .inr ⟨(k+1,A k),rfl,⟨by simp only;omega,by simp only;omega,?_⟩,by simp only;omega⟩;simp only;rw [hA,zaa (λm=>q2 ((h.mem k).1 m))];simp
   ·have d1:decide (kP b k>=0)=true:=by simpa using q1
    have hm:nth b.bm (kP b k).toNat∈b.bm:=p7 (by omega);have hk:k∈sG b:=by rw [←q3];exact zcn hm
    rw [zab ((h.mem k).2 hk)] at hA;simp only [d1,zcf,zcr];by_cases F2:k∈b.ended
    ·simp only [F2,decide_true,zck,zbf,zbw];rw [af ⟨by omega,by omega⟩];refine .inr ⟨(k+1,A k),rfl,⟨by simp only;omega,by simp only;omega,?_⟩,by simp only;omega⟩;simp only;rw [hA,zdu,h.HC F2];simp
    ·simp only [F2,zex,zcs,zcf];rw [af ⟨q1,q2⟩,af (by simp only [zan];omega),af ⟨by omega,by omega⟩];refine .inr ⟨(k+1,A k++[nth b.bm (kP b k).toNat]),rfl,⟨by simp only;omega,by simp only;omega,?_⟩,by simp only;omega⟩;simp only;have hl:=h.look _ hm;rw [q3,zaa F2] at hl;rw [hA,zdu,hl];simp
  ·rw [zaa (by simpa using c)];obtain ⟨a,ha⟩:=WH b (A k) (by omega) (by omega);rw [ha];refine .inl ⟨_,rfl,?_⟩;simp only;by_cases hk:k<=9999
   ·exact (sub k).eq_of_length_le (by omega)
   ·show (w.2.1.filter λz=>decide (z<k)).filterMap _=_;rw [zdg.2 λz hz=>by have:=h.Xc z ((h.mem z).1 hz);simp;omega];rfl
 ·show []=(w.2.1.filter λz=>decide (z<1)).filterMap _;rw [zde.2 λz hz=>by have:=h.Xc z ((h.mem z).1 hz);simp;omega];rfl
end state
def FZ (x:List UInt8) (L:List Sub):Option Sub:=L.find? λs=>decide (x∈s.numbers)
theorem AQ (id:Int) (x:List UInt8):∀ (ns:List (List UInt8)) (o:List ((List UInt8)×Int)),aC (ns.foldl (λo n=>dj o n id) o) x=if x∈ns then some id else aC o x
 | [],o=>by simp
 | a::ns,o=>by
  rw [List.foldl_cons,AQ id x ns,fw];by_cases h:x∈ns
  ·rw [zab h,zab (zal _ h)]
  ·rw [zaa h];by_cases h2:x=a
   ·rw [zab (by simpa using h2),zab (by rw [h2];exact zao ..)]
   ·rw [zaa (by simpa using h2),zaa (by simp [h,h2])]
theorem K6 (x:List UInt8):∀ (L:List Sub) (o:List ((List UInt8)×Int)),(∀ s s',s∈L->s'∈L->x∈s.numbers->x∈s'.numbers->s.id=s'.id)->aC (Wx L o) x=match FZ x L with|some s=>some s.id|none=>aC o x
 | [],o,_=>rfl
 | s::l,o,h=>by
  have ih:=K6 x l (s.numbers.foldl (λo n=>dj o n s.id) o) λa b ha hb=>h a b (zal _ ha) (zal _ hb)
  unfold Wx;rw [ih];unfold FZ;rw [List.find?_cons];by_cases hx:x∈s.numbers
  ·rw [show decide (x∈s.numbers)=true from by simpa using hx];simp only;cases hf:l.find? λs=>decide (x∈s.numbers) with
   | none=>simp only [AQ,hx,zcf]
   | some s' =>
    have h1:=List.mem_of_find?_eq_some hf;have h2:=List.find?_some hf;simp only;rw [h s s' (zao ..) (zal _ h1) hx (by simpa using h2)]
  ·rw [show decide (x∈s.numbers)=false from by simpa using hx];simp only;cases hf:l.find? λs=>decide (x∈s.numbers) with
   | none=>simp only [AQ,hx,zbw]
   | some s'=>rfl
theorem K7:∀ (L:List Sub),(L.map (·.id)).Nodup->∀ s,s∈L->K0 s.id L=(s,true)
 | [],_,s,h=>by simp at h
 | a::l,hn,s,h=>by
  rw [zap,zbs] at hn;unfold K0;rcases zav.1 h with rfl|h
  ·rw [zab rfl]
  ·rw [zaa (λq=>hn.1 (by rw [q];exact zcn h))];exact K7 l hn.2 s h
section state
variable {n:Nat} {w:W7} {b:Bk}
theorem wm.own (h:wm n w b) (x:List UInt8):I2 (jK w) x=match FZ x (jK w) with|some s=>(s,true)|none=>(uZ,false):=by
 unfold I2;rw [K6 x _ _ λs s' hs uz=>h.num s s' x (h.B2 hs).1 (h.B2 uz).1];cases hf:FZ x (jK w) with
 | none=>simp [aC]
 | some s =>
  simp only;exact K7 _ h.TS s (List.mem_of_find?_eq_some hf)
theorem Rf (cP:List Event) (x:List UInt8) (t:Int) (hl:cP.length<=10000) (hu:Ln t cP b0=some b) (h:wm n w b) (hn:n<=10000):rP cP x t=some (match FZ x (jK w) with|some s=>(s.id,true)|none=>(0,false)):=by
 unfold rP;obtain ⟨a,ha⟩:=Re cP t hl hu h hn;rw [ha,zac];have hlen:=K2 h.wb;have Wy:=HA h.wb;refine bC (step:=λs:Int=>mJ x ⟨a,jK w⟩ s) (jK w) (λs=>s) (λs r=>some (match FZ x r with|some s=>(s.id,true)|none=>(0,false))) (λs r=>0<=s/\∀ z,z∈r->z.numbers.length<=10000) (by omega) ?_ ?_ (s:=0) rfl ⟨by omega,λz hz=>by have:=Wy z hz;omega⟩
 ·rintro i ⟨h1,_⟩ h2;refine ⟨_,?_,rfl⟩;unfold mJ;rw [zaa (by simp only [zah];omega)];rfl
 ·rintro i s r ⟨h1,h2⟩ h3 h4 h5 h6;have hs:=h2 s (zao ..);unfold mJ;rw [zab (by simpa using h4),af ⟨h3,h4⟩,h5,I4 _ _ (by omega),zac];by_cases hx:x∈s.numbers
  ·rw [zab (by simpa using hx),af ⟨h3,h4⟩];refine .inl ⟨_,rfl,?_⟩;unfold FZ;rw [List.find?_cons,show decide (x∈s.numbers)=true from by simpa using hx]
  ·rw [zaa (by simpa using hx),af ⟨by omega,by omega⟩];refine .inr ⟨i+1,rfl,⟨by omega,λz hz=>h2 z (zal _ hz)⟩,rfl,?_⟩;unfold FZ;rw [List.find?_cons,show decide (x∈s.numbers)=false from by simpa using hx]
theorem WI (cP:List Event) (s:Sub) (t:Int) (hl:cP.length<=10000) (hu:Ln t cP b0=some b) (h:wm n w b) (hn:n<=10000) (hs:s∈jK w):v8 cP s.id t=some (s,true):=by
 unfold v8;have h1:=h.bb.bm;have h2:=h.bb.ended;obtain ⟨m,e⟩:=h.B2 hs;rw [Rc cP t b hl hu,zac,FW b _ (by omega),zac,Er b _ (by omega),iq,zac];rcases yX b s.id with ⟨_,q⟩|⟨q1,q2,q3⟩
 ·exact absurd (zcn m) q
 ·rw [show decide (kP b s.id<0)=false from by simp;omega,show decide (s.id∈b.ended)=false from by simpa using e];simp only [zcs,zcf,zfs,zbf,zbw];rw [af ⟨q1,q2⟩,h.find (p7 (by omega)) m q3]
theorem wm.WJ (h:wm n w b):FZ [] (jK w)=none:=by
 cases hf:FZ [] (jK w) with
 | none=>rfl
 | some s =>
  have h1:=List.mem_of_find?_eq_some hf;have h2:=List.find?_some hf;exact absurd (by simpa using h2) (h.ne s (h.B2 h1).1)
theorem NH (cP:List Event) (r:aa) (id:Int) (x:List UInt8) (hl:cP.length<=10000) (hu:Ln r.start cP b0=some b) (h:wm n w b) (hn:n<=10000) (hx:x=B1 r) (e0:fM r=0) (p0:r.part=0):je cP r id x=some (I3 (jK w) r id):=by
 subst hx;unfold je I3;rw [Rf cP _ _ hl hu h hn,zac,h.own,zaa (show ¬(fM r≠0) from λk=>k e0),zaa (show ¬(r.part≠0) from λk=>k p0)];cases hf:FZ (B1 r) (jK w) with
 | none=>simp [FV]
 | some s =>
  have hm:=List.mem_of_find?_eq_some hf;simp only [zck,zcv];by_cases hz:B1 r=[]
  ·rw [hz,h.WJ] at hf;cases hf
  ·rw [zaa (by simpa using hz),WI cP s _ hl hu h hn hm,zac];simp only [Bool.true_eq_false,zbw];by_cases hc:s.bO=true/\r.bI=false
   ·rw [zab (by simp [hc]),zab hc];rfl
   ·rw [zaa (by simpa using hc),zaa hc]
theorem Rg (cP:List Event) (r:aa) (id:Int) (hl:cP.length<=10000) (hu:Ln r.start cP b0=some b) (h:wm n w b) (hn:n<=10000) (hs:Sm r):mK cP r id=some (I3 (jK w) r id):=by
 unfold mK;rw [yq r hs,zac];by_cases h1:fM r=0
 ·rw [zaa (by simpa using h1)];by_cases h2:r.part=0
  ·rw [zaa (by simpa using h2)];split
   ·rename_i hi;exact NH cP r id _ hl hu h hn (by unfold B1;rw [zab hi]) h1 h2
   ·rename_i hi;exact NH cP r id _ hl hu h hn (by unfold B1;rw [zaa hi]) h1 h2
  ·rw [zab (by simpa using h2)];unfold I3;rw [zaa (show ¬(fM r≠0) from λk=>k h1),zab h2];rfl
 ·rw [zab (by simpa using h1)];unfold I3;rw [zab h1];rfl
end state
theorem SQ (cP:List Event) (t:Int) (hl:cP.length<=40) (hv:VC b0 0 cP):∃ w b,KY t cP w0=some w/\Ln t cP b0=some b/\wm cP.length w b:=by
 obtain ⟨w,b,h1,h2,h3⟩:=ND t cP 0 w0 b0 0 inv0 (by omega) hv;rw [zbp] at h3;exact ⟨w,b,h1,h2,h3⟩
theorem Y7 {σ:Type} {step:σ->Option (σ ⊕ Bool)} (n:Nat) (hn:n<=100000) (I:Nat->σ->Prop) (P:Nat->Prop) (Q:Prop)
  (h:∀ k s,k<n->I k s->(P k/\∃ s',step s=some (.inl s')/\I (k+1) s')∨(¬P k/\step s=some (.inr false)))
  (he:∀ s,I n s->∃ b,step s=some (.inr b)/\(b=true↔Q)) {s:σ} (hs:I 0 s):∃ b,loop step s=some b/\(b=true↔(∀ k,k<n->P k)/\Q):=by
 have key:∀ (m:Nat) (k:Nat) (s:σ),n-k<=m->k<=n->I k s->(∀ j,j<k->P j)->∀ f,m+1<=f->∃ b,iter step f s=some b/\(b=true↔(∀ k,k<n->P k)/\Q):=by
  intro m
  induction m with
  | zero =>
   intro k s hk hkn hI hP f hf;have:k=n:=by omega
   subst this;obtain ⟨b,h1,h2⟩:=he s hI;obtain ⟨f,rfl⟩:∃ g,f=g+1:=⟨f-1,by omega⟩;exact ⟨b,wj h1,h2.trans ⟨λq=>⟨hP,q⟩,λq=>q.2⟩⟩
  | succ m ih =>
   intro k s hk hkn hI hP f hf;obtain ⟨f,rfl⟩:∃ g,f=g+1:=⟨f-1,by omega⟩;by_cases e:k=n
   ·subst e;obtain ⟨b,h1,h2⟩:=he s hI;exact ⟨b,wj h1,h2.trans ⟨λq=>⟨hP,q⟩,λq=>q.2⟩⟩
   ·rcases h k s (by omega) hI with ⟨p,s',h1,h2⟩|⟨p,h1⟩
    ·obtain ⟨b,q1,q2⟩:=ih (k+1) s' (by omega) (by omega) h2 (λj hj=>by
      by_cases ej:j=k
      ·rw [ej];exact p
      ·exact hP j (by omega)) f (by omega)
     exact ⟨b,by rw [KS h1];exact q1,q2⟩
    ·exact ⟨false,wj h1,by simp;intro q;exact absurd (q k (by omega)) p⟩
 have:=key n 0 s (by omega) (by omega) hs (λj hj=>by omega) 18446744073709551616 (by omega);exact this
theorem scan {step:Int->Option (Int ⊕ Bool)} (n:Nat) (hn:n<=100000) (P:Nat->Prop) (Q:Prop)
  (h:∀ k:Nat,k<n->(P k/\step (k:Int)=some (.inl ((k:Int)+1)))∨(¬P k/\step (k:Int)=some (.inr false)))
  (he:∃ b,step (n:Int)=some (.inr b)/\(b=true↔Q)):∃ b,loop step 0=some b/\(b=true↔(∀ k,k<n->P k)/\Q):=by
 refine Y7 n hn (λk s=>s=(k:Int)) P Q ?_ ?_ (s:=0) rfl
 ·rintro k s hk rfl;rcases h k hk with ⟨p,e⟩|⟨p,e⟩
  ·exact .inl ⟨p,_,e,by omega⟩
  ·exact .inr ⟨p,e⟩
 ·rintro s rfl;exact he
theorem yY {α:Type} [Inhabited α] {l:List α} {P:α->Prop}:(∀ k,k<l.length->P (nth l k))↔∀ x,x∈l->P x:=by
 constructor
 ·intro h x hx;obtain ⟨k,hk,e⟩:=List.getElem_of_mem hx;have:=h k hk
  rwa [r9 hk,e] at this
 ·intro h k hk;exact h _ (p7 hk)
theorem K8 {α:Type} [Inhabited α] {l:List α} {R:α->α->Prop}:(∀ k,k<l.length->∀ j,j<k->R (nth l j) (nth l k))↔l.Pairwise R:=by
 rw [List.pairwise_iff_getElem];constructor
 ·intro h i j hi hj N0;have:=h j hj i N0
  rwa [r9 hi,r9 hj] at this
 ·intro h k hk j hj;have:=h j k (by omega) hk hj
  rwa [r9 hk,r9 (by omega)]
def F0:List Range->Int
 | []=>0
 | r::l=>(r.lz-r.from_+1)+F0 l
def I7:List Head->Int
 | []=>0
 | h::l=>h.count+I7 l
theorem I8:∀ {l:List Range},(∀ r,r∈l->Eo r)->0<=F0 l/\F0 l<=l.length*1000000000
 | [],_=>by simp [F0]
 | r::l,h=>by
  have h1:=h r (zao ..);have h2:=I8 λx hx=>h x (zal _ hx)
  unfold Eo at h1;rw [F0,zag];omega
theorem NI:∀ {l:List Head},(∀ r,r∈l->GQ r)->0<=I7 l/\I7 l<=l.length*5000
 | [],_=>by simp [I7]
 | r::l,h=>by
  have h1:=h r (zao ..);have h2:=NI λx hx=>h x (zal _ hx)
  unfold GQ at h1;rw [I7,zag];omega
theorem Rh (l:List Range) (h:∀ r,r∈l->Eo r) (hl:l.length<=10000):rH l=some (F0 l):=by
 unfold rH;have:=bC (step:=λs:Int×Int=>mD l s.1 s.2) l (λs=>s.2) (λs t=>some (s.1+F0 t)) (λs t=>(0<=s.1/\s.1+t.length*1000000000<=10000*1000000000)/\∀ r,r∈t->Eo r) (by omega) ?_ ?_ (s:=(0,0)) rfl ⟨by simp only;omega,h⟩
 ·rw [this];simp
 ·rintro ⟨n,i⟩ ⟨h1,_⟩ h2;simp only at h1 h2;refine ⟨n,?_,by simp [F0]⟩;unfold mD;rw [zaa (by simp only [zah];omega)]
 ·rintro ⟨n,i⟩ r t ⟨h1,h2⟩ h3 h4 h5 h6;simp only at h1 h3 h4 h5 h6;have hr:=h2 r (zao ..);rw [zag] at h1;unfold Eo at hr;unfold mD;rw [zab (by simpa using h4),af ⟨h3,h4⟩,h5,af ⟨by omega,by omega⟩,af ⟨h3,h4⟩,af ⟨by omega,by omega⟩,af ⟨by omega,by omega⟩,af ⟨by omega,by omega⟩];refine .inr ⟨(n+r.lz-r.from_+1,i+1),rfl,⟨by simp only;omega,λx hx=>h2 x (zal _ hx)⟩,rfl,?_⟩
  simp only [F0];congr 1;omega
def xf (m:ah):b8:=⟨I7 m.aM.aT,(m.usages.length:Int),((F0 m.aM.seen-(m.usages.length:Int)) - (m.aP.length:Int)) - (m.aM.open_.length:Int),(m.bu.length:Int),(m.aP.length:Int),(m.aM.open_.length:Int)⟩
structure Zu (m:ah):Prop where
 seen:∀ r,r∈m.aM.seen->Eo r
 aT:∀ h,h∈m.aM.aT->GQ h
 l1:m.aM.seen.length<=10000
 l2:m.aM.aT.length<=10000
 l3:m.aM.open_.length<=10000
 l4:m.usages.length<=10000
 l5:m.aP.length<=10000
 l6:m.bu.length<=10000
theorem My (m:ah) (h:Zu m):oc m=some (xf m):=by
 have b1:=I8 h.seen;have:=h.l1;have:=h.l2;have:=h.l3;have:=h.l4;have:=h.l5;unfold oc;have:=bC (step:=λs:Int×Int=>kA m s.1 s.2) m.aM.aT (λs=>s.1) (λs t=>some (⟨s.2+I7 t,(m.usages.length:Int),((F0 m.aM.seen-(m.usages.length:Int)) - (m.aP.length:Int)) - (m.aM.open_.length:Int),(m.bu.length:Int),(m.aP.length:Int),(m.aM.open_.length:Int)⟩:b8))
  (λs t=>(0<=s.2/\s.2+t.length*5000<=10000*5000)/\∀ r,r∈t->GQ r) (by omega) ?_ ?_ (s:=(0,0)) rfl ⟨by simp only;omega,h.aT⟩
 ·rw [this];simp [xf]
 ·rintro ⟨i,n⟩ ⟨h1,_⟩ h2;simp only at h1 h2;refine ⟨_,?_,rfl⟩;unfold kA;rw [zaa (by simp only [zah];omega)];unfold kz;rw [Rh _ h.seen h.l1,zac,af ⟨by omega,by omega⟩,af ⟨by omega,by omega⟩,af ⟨by omega,by omega⟩];simp [I7]
 ·rintro ⟨i,n⟩ r t ⟨h1,h2⟩ h3 h4 h5 h6;simp only at h1 h3 h4 h5 h6;have hr:=h2 r (zao ..);rw [zag] at h1;unfold GQ at hr;unfold kA;rw [zab (by simpa using h4),af ⟨h3,h4⟩,h5,af ⟨by omega,by omega⟩,af ⟨by omega,by omega⟩];refine .inr ⟨(i+1,n+r.count),rfl,⟨by simp only;omega,λx hx=>h2 x (zal _ hx)⟩,rfl,?_⟩
  simp only [I7];rw [Int.add_assoc]
theorem Y8 {σ R:Type} {step:σ->Option (σ ⊕ R)} (n:Nat) (hn:n<=100000) (I:Nat->σ->Prop) (P:Nat->Prop) (E B:R->Prop)
  (h:∀ k s,k<n->I k s->(P k/\∃ s',step s=some (.inl s')/\I (k+1) s')∨(¬P k/\∃ r,step s=some (.inr r)/\B r))
  (he:∀ s,I n s->∃ r,step s=some (.inr r)/\E r) {s:σ} (hs:I 0 s):∃ r,loop step s=some r/\(((∀ k,k<n->P k)/\E r)∨(¬(∀ k,k<n->P k)/\B r)):=by
 have key:∀ (m:Nat) (k:Nat) (s:σ),n-k<=m->k<=n->I k s->(∀ j,j<k->P j)->∀ f,m+1<=f->∃ r,iter step f s=some r/\(((∀ k,k<n->P k)/\E r)∨(¬(∀ k,k<n->P k)/\B r)):=by
  intro m
  induction m with
  | zero =>
   intro k s hk hkn hI hP f hf;have:k=n:=by omega
   subst this;obtain ⟨b,h1,h2⟩:=he s hI;obtain ⟨f,rfl⟩:∃ g,f=g+1:=⟨f-1,by omega⟩;exact ⟨b,wj h1,.inl ⟨hP,h2⟩⟩
  | succ m ih =>
   intro k s hk hkn hI hP f hf;obtain ⟨f,rfl⟩:∃ g,f=g+1:=⟨f-1,by omega⟩;by_cases e:k=n
   ·subst e;obtain ⟨b,h1,h2⟩:=he s hI;exact ⟨b,wj h1,.inl ⟨hP,h2⟩⟩
   ·rcases h k s (by omega) hI with ⟨p,s',h1,h2⟩|⟨p,r,h1,h2⟩
    ·obtain ⟨b,q1,q2⟩:=ih (k+1) s' (by omega) (by omega) h2 (λj hj=>by
      by_cases ej:j=k
      ·rw [ej];exact p
      ·exact hP j (by omega)) f (by omega)
     exact ⟨b,by rw [KS h1];exact q1,q2⟩
    ·exact ⟨r,wj h1,.inr ⟨λq=>p (q k (by omega)),h2⟩⟩
 have:=key n 0 s (by omega) (by omega) hs (λj hj=>by omega) 18446744073709551616 (by omega);exact this
def I9 (u:aA):aa:=⟨u.source,u.aZ,u.kind,u.a,u.b,u.start,u.cJ,0,0,false,u.cT,u.bI⟩
def o7 (m:ah):List aa:=m.usages.map I9++m.aP++m.aM.open_
def HD (m:ah) (k:Nat):Prop:=(nth m.usages k).id=(k:Int)+1/\(1<=(nth m.usages k).aw/\(nth m.usages k).aw<=9999)/\(1<=(nth m.usages k).sub/\(nth m.usages k).sub<=9999)
def DG (b:b8):Prop:=0<=b.merged/\b.read=b.accepted+b.merged+b.rejected+b.bO+b.open_
structure Mz (m:ah):Prop where
 aM:yz m.aM
 usg:∀ k,k<m.usages.length->HD m k
 susp:∀ r,r∈m.aP->r.part=0
 rej:∀ x,x∈m.bu->x.err=15∨x.err=13
 valid:∀ r,r∈o7 m->fM r=0
 seen:∀ r,r∈o7 m->(hasB m.aM.seen r.source r.aZ && RG r.source r.aZ)=true
 uniq:(o7 m).Pairwise NS
 bal:DG (xf m)
structure MA (m:ah):Prop where
 aM:SmI m.aM
 l1:m.usages.length<=1000
 l2:m.aP.length<=1000
 l3:m.bu.length<=1000
 u:∀ u,u∈m.usages->Sm (I9 u)
 s:∀ r,r∈m.aP->Sm r
theorem MA.bal {m:ah} (h:MA m) (g:yz m.aM):Zu m:=⟨g.can.ok,λx hx=>IZ g.aT x hx,by have:=h.aM.seen;omega,by have:=h.aM.aT;omega,by have:=h.aM.opens;omega,by have:=h.l1;omega,by have:=h.l2;omega,by have:=h.l3;omega⟩
theorem MA.o7 {m:ah} (h:MA m):∀ r,r∈o7 m->Sm r:=λr hr=>by
 unfold Go.Proofs.YtimkfiaffohhkaaGreatDoor.o7 at hr;rcases zbi.1 hr with hr|hr
 ·rcases zbi.1 hr with hr|hr
  ·obtain ⟨u,hu,rfl⟩:=zdh.1 hr;exact h.u u hu
  ·exact h.s r hr
 ·exact h.aM.sm r hr
theorem Ri (m:ah):(o7 m).length=m.usages.length+m.aP.length+m.aM.open_.length:=by simp [o7];omega
theorem SR {m:ah} (h:Zu m):(0<=(xf m).read/\(xf m).read<=1000000000)/\(-100000<=(xf m).merged/\(xf m).merged<=10000000000000)/\(xf m).accepted=m.usages.length/\(xf m).rejected=m.bu.length/\(xf m).bO=m.aP.length/\(xf m).open_=m.aM.open_.length:=by
 have b1:=I8 h.seen;have b2:=NI h.aT;have:=h.l1;have:=h.l2;have:=h.l3;have:=h.l4;have:=h.l5;have:=h.l6;unfold xf;simp only;refine ⟨⟨by omega,by omega⟩,⟨by omega,by omega⟩,by first|rfl|trivial,by first|rfl|trivial,by first|rfl|trivial,by first|rfl|trivial⟩
theorem Rj {m:ah} (h:Zu m):∃ b,(some (xf m)).bind (λy6=>ck ((decide (y6.merged>=0))=true->(cR (y6.accepted+y6.merged))) (ck ((decide (y6.merged>=0))=true->(cR ((y6.accepted+y6.merged)+y6.rejected))) (ck ((decide (y6.merged>=0))=true->(cR (((y6.accepted+y6.merged)+y6.rejected)+y6.bO))) (ck ((decide (y6.merged>=0))=true->(cR ((((y6.accepted+y6.merged)+y6.rejected)+y6.bO)+y6.open_))) (some ((decide (y6.merged>=0)) && (y6.read==((((y6.accepted+y6.merged)+y6.rejected)+y6.bO)+y6.open_))))))))=some b/\(b=true↔DG (xf m)):=by
 obtain ⟨h1,h2,h3,h4,h5,h6⟩:=SR h;have:=h.l1;have:=h.l2;have:=h.l3;have:=h.l4;have:=h.l5;have:=h.l6;rw [zac,af (λ_=>⟨by omega,by omega⟩),af (λ_=>⟨by omega,by omega⟩),af (λ_=>⟨by omega,by omega⟩),af (λ_=>⟨by omega,by omega⟩)];refine ⟨_,rfl,?_⟩;unfold DG;simp
theorem OU (m:ah) (h:MA m):oa m=some (o7 m):=by
 have:=h.l1;have:=h.l2;have:=h.aM.opens;unfold oa;refine bC (step:=λs:List aa×Int=>kx m s.1 s.2) m.usages (λs=>s.2) (λs t=>some (s.1++t.map I9++m.aP++m.aM.open_)) (λs t=>0<=s.2/\(s.1.length:Int)=s.2/\s.2<=1000) (by omega) ?_ ?_ (s:=([],0)) rfl ⟨by simp,by simp,by simp⟩
 ·rintro ⟨o,i⟩ ⟨h1,h2,h3⟩ h4;simp only at h1 h2 h3 h4;refine ⟨o++m.aP++m.aM.open_,?_,by simp⟩;unfold kx;rw [zaa (by simp only [zah];omega)];unfold kv;simp only;rw [af (by omega),af (by rw [zai];omega)];rfl
 ·rintro ⟨o,i⟩ u t ⟨h1,h2,h3⟩ h4 h5 h6 h7;simp only at h1 h2 h3 h4 h5 h6 h7;unfold kx;rw [zab (by simpa using h5),af ⟨h4,h5⟩,h6];refine .inr ⟨(o++[I9 u],i+1),?_,⟨by simp only;omega,by simp only [zai,zan];omega,by simp only;omega⟩,rfl,by simp⟩;unfold s9;rw [zac,af (by simp only [zan];omega),af ⟨by omega,by omega⟩];rfl
def K9 (m:ah) (k:Nat):Prop:=fM (nth (o7 m) k)=0/\(hasB m.aM.seen (nth (o7 m) k).source (nth (o7 m) k).aZ && RG (nth (o7 m) k).source (nth (o7 m) k).aZ)=true/\∀ j,j<k->NS (nth (o7 m) j) (nth (o7 m) k)
theorem Y9 (l:List aa) (k:Nat) (hk:k<l.length) (hl:l.length<=10000):∃ r,loop (λs:Int=>mE l (k:Int) s) 0=some r/\(((∀ j,j<k->NS (nth l j) (nth l k))/\r=.inl ((k:Int)+1))∨(¬(∀ j,j<k->NS (nth l j) (nth l k))/\r=.inr false)):=by
 refine Y8 k (by omega) (λj s=>s=(j:Int)) (λj=>NS (nth l j) (nth l k)) (λr:Int ⊕ Bool=>r=.inl ((k:Int)+1)) (λr:Int ⊕ Bool=>r=.inr false) ?_ ?_ rfl
 ·rintro j s hj rfl;unfold mE;have b1:(0:Int)<=(j:Int)/\(j:Int)<(l.length:Int):=by omega
  have b2:(0:Int)<=(k:Int)/\(k:Int)<(l.length:Int):=by omega
  rw [zab (by simpa using hj),af b1,af b2,af (λ_=>b1),af (λ_=>b2)];simp only [zch];by_cases hn:NS (nth l j) (nth l k)
  ·refine .inl ⟨hn,(j:Int)+1,?_,by omega⟩;rw [zaa (by unfold NS at hn;simpa using hn),af ⟨by omega,by omega⟩]
  ·refine .inr ⟨hn,.inr false,?_,rfl⟩;rw [zab (by unfold NS at hn;simpa using hn)]
 ·rintro s rfl;unfold mE;rw [zaa (by simp),af ⟨by omega,by omega⟩];exact ⟨_,rfl,rfl⟩
theorem SS (m:ah) (h:MA m):∃ b,rJ m=some b/\(b=true↔Mz m):=by
 unfold rJ;rw [YZ m.aM h.aM,zac];by_cases hg0:Xa m.aM=false
 ·rw [zab (by simpa using hg0)];exact ⟨_,rfl,by simp;exact λq=>by have:=(Ns _).2 q.aM;rw [hg0] at this;cases this⟩
 have hg:Xa m.aM=true:=by simpa using hg0
 rw [zaa (by simpa using hg)];have g:=(Ns _).1 hg;have hb:=h.bal g;have:=h.l1;have:=h.l2;have:=h.l3;have:=h.aM.opens;have:=h.aM.seen;have h4:∃ b,kB m=some b/\(b=true↔DG (xf m)):=by
  unfold kB;rw [My m hb];exact Rj hb
 have O6:=Ri m;have h3:∃ b,kC m=some b/\(b=true↔(∀ k,k<(o7 m).length->K9 m k)/\DG (xf m)):=by
  unfold kC;rw [OU m h,zac];refine scan (o7 m).length (by omega) (K9 m) _ ?_ ?_
  ·intro k hk;have b1:(0:Int)<=(k:Int)/\(k:Int)<((o7 m).length:Int):=by omega
   unfold pJ;rw [zab (by simpa using hk),af b1];simp only [zch];rw [yq _ (h.o7 _ (p7 hk)),zac,af (λ_=>b1),af (λ_=>b1),QX _ _ _ (by omega),iq,zac];by_cases he:fM (nth (o7 m) k)=0
   ·rw [zab (c:=(!(fM (nth (o7 m) k) != 0))=true) (by simp [he])];by_cases hh:(hasB m.aM.seen (nth (o7 m) k).source (nth (o7 m) k).aZ && RG (nth (o7 m) k).source (nth (o7 m) k).aZ)=true
    ·rw [zaa (by simp only [hh,he];simp)];obtain ⟨r,h5,⟨h6,rfl⟩|⟨h6,rfl⟩⟩:=Y9 (o7 m) k hk (by omega)
     ·exact .inl ⟨⟨he,hh,h6⟩,h5⟩
     ·exact .inr ⟨λq=>h6 q.2.2,h5⟩
    ·rw [zab (by simp only [zbr,zdl];right;exact zff.2 hh)];exact .inr ⟨λq=>hh q.2.1,rfl⟩
   ·rw [zab (c:=(_ || _)=true) (by simp [he])];exact .inr ⟨λq=>he q.1,rfl⟩
  ·obtain ⟨b,e1,e2⟩:=h4;refine ⟨b,?_,e2⟩;unfold pJ;rw [zaa (by simp),e1];rfl
 have h2:∃ b,kE m=some b/\(b=true↔(∀ k,k<m.bu.length->((nth m.bu k).err=15∨(nth m.bu k).err=13))/\(∀ k,k<(o7 m).length->K9 m k)/\DG (xf m)):=by
  unfold kE;refine scan m.bu.length (by omega) (λk=>(nth m.bu k).err=15∨(nth m.bu k).err=13) _ ?_ ?_
  ·intro k hk;have b1:(0:Int)<=(k:Int)/\(k:Int)<(m.bu.length:Int):=by omega
   unfold kD;rw [zab (by simpa using hk),af b1,af (λ_=>b1)];simp only [zch];by_cases he:(nth m.bu k).err=15∨(nth m.bu k).err=13
   ·rw [zaa (by simp;intro q;rcases he with he|he;exact absurd he q;exact he),af ⟨by omega,by omega⟩];exact .inl ⟨he,rfl⟩
   ·rw [zab (by simp;exact ⟨λq=>he (.inl q),λq=>he (.inr q)⟩)];exact .inr ⟨he,rfl⟩
  ·obtain ⟨b,e1,e2⟩:=h3;refine ⟨b,?_,e2⟩;unfold kD;rw [zaa (by simp),e1];rfl
 have h1:∃ b,kG m=some b/\(b=true↔(∀ k,k<m.aP.length->(nth m.aP k).part=0)/\(∀ k,k<m.bu.length->((nth m.bu k).err=15∨(nth m.bu k).err=13))/\(∀ k,k<(o7 m).length->K9 m k)/\DG (xf m)):=by
  unfold kG;refine scan m.aP.length (by omega) (λk=>(nth m.aP k).part=0) _ ?_ ?_
  ·intro k hk;have b1:(0:Int)<=(k:Int)/\(k:Int)<(m.aP.length:Int):=by omega
   unfold kF;rw [zab (by simpa using hk),af b1];simp only [zch];by_cases he:(nth m.aP k).part=0
   ·rw [zaa (by simpa using he),af ⟨by omega,by omega⟩];exact .inl ⟨he,rfl⟩
   ·rw [zab (by simpa using he)];exact .inr ⟨he,rfl⟩
  ·obtain ⟨b,e1,e2⟩:=h2;refine ⟨b,?_,e2⟩;unfold kF;rw [zaa (by simp),e1];rfl
 have h0:∃ b,loop (λs=>jc m s) 0=some b/\(b=true↔(∀ k,k<m.usages.length->HD m k)/\(∀ k,k<m.aP.length->(nth m.aP k).part=0)/\(∀ k,k<m.bu.length->((nth m.bu k).err=15∨(nth m.bu k).err=13))/\(∀ k,k<(o7 m).length->K9 m k)/\DG (xf m)):=by
  refine scan m.usages.length (by omega) (HD m) _ ?_ ?_
  ·intro k hk;have b1:(0:Int)<=(k:Int)/\(k:Int)<(m.usages.length:Int):=by omega
   unfold jc;rw [zab (by simpa using hk),af b1,af ⟨by omega,by omega⟩];simp only [zch];by_cases he:HD m k
   ·rw [zaa (by unfold HD at he;simp;omega),af ⟨by omega,by omega⟩];exact .inl ⟨he,rfl⟩
   ·rw [zab (by unfold HD at he;simp;omega)];exact .inr ⟨he,rfl⟩
  ·obtain ⟨b,e1,e2⟩:=h1;refine ⟨b,?_,e2⟩;unfold jc;rw [zaa (by simp),e1];rfl
 obtain ⟨b,e1,e2⟩:=h0;refine ⟨b,e1,e2.trans ?_⟩;rw [yY (P:=λr:aa=>r.part=0),yY (P:=λx:ak=>x.err=15∨x.err=13)];constructor
 ·rintro ⟨q1,q2,q3,q4,q5⟩;exact ⟨g,q1,q2,q3,yY.1 λk hk=>(q4 k hk).1,yY (P:=λr:aa=>(hasB m.aM.seen r.source r.aZ && RG r.source r.aZ)=true) |>.1 λk hk=>(q4 k hk).2.1,K8.1 λk hk=>(q4 k hk).2.2,q5⟩
 ·rintro ⟨_,q1,q2,q3,q4,q5,q6,q7⟩;exact ⟨q1,q2,q3,λk hk=>⟨yY.2 q4 k hk,yY (P:=λr:aa=>(hasB m.aM.seen r.source r.aZ && RG r.source r.aZ)=true) |>.2 q5 k hk,K8.2 q6 k hk⟩,q7⟩
theorem SU:rC=some true:=by kernel_rfl
theorem NJ (l:List aa):∃ b,tp l=some b/\(b=true->l.length<=30/\∀ r,r∈l->Sm r):=by
 unfold tp;obtain ⟨b,h1,h2⟩:=ti (step:=λi:Int=>mW l i) (λb=>b=true->l.length<=30/\∀ r,r∈l->Sm r) (λi:Int=>0<=i/\i<=31/\i<=(l.length:Int)/\∀ r,r∈l.take i.toNat->Sm r) (λi=>(31-i).toNat) (λi hI=>by
  obtain ⟨h0,h1,h2,h3⟩:=hI;show (∃ r,mW l i=_/\_)∨∃ s',mW l i=_/\_;unfold mW;by_cases h:i<(l.length:Int)/\i<31
  ·rw [zab (by simp [h]),af (by omega),af (by omega)];by_cases hs:Sm (nth l i.toNat)
   ·have uz:=hs;unfold Sm at uz;rw [zaa (by simp;omega),af (by omega)];refine .inr ⟨i+1,rfl,⟨by omega,by omega,by omega,?_⟩,by omega⟩;rw [show (i+1).toNat=i.toNat+1 from by omega,rq (by omega)];intro r hr;rcases zbi.1 hr with hr|hr
    ·exact h3 r hr
    ·simp at hr;subst hr;exact hs
   ·have uz:=hs;unfold Sm at uz;rw [zab (by simp;omega)];exact .inl ⟨_,rfl,by simp⟩
  ·rw [zaa (by simp;omega)];unfold pf;refine .inl ⟨_,rfl,λhb=>?_⟩;simp at hb;have:i=l.length:=by omega
   refine ⟨by omega,λr hr=>h3 r ?_⟩;rw [zcc (by omega)];exact hr) (s:=0) ⟨by omega,by omega,by omega,by simp⟩ (by omega)
 exact ⟨b,h1,h2⟩
structure yZ (m:ah):Prop where
 sm:MA m
 u:m.usages.length<=30
 s:m.aP.length<=30
 o:m.aM.open_.length<=30
 r:m.bu.length<=30
 e:m.aM.seen.length<=30
 h:m.aM.aT.length<=30
theorem OV (m:ah):∃ b,iU m=some b/\(b=true->(∀ u,u∈m.usages->Sm (I9 u))->yZ m):=by
 unfold iU;obtain ⟨b1,h1,h2⟩:=NJ m.aP;obtain ⟨b2,h3,h4⟩:=NJ m.aM.open_;rw [h1,h3,iq,zac,iq,zac];refine ⟨_,rfl,λhb hu=>?_⟩;simp only [zar,zah] at hb;obtain ⟨⟨⟨⟨⟨q1,q2⟩,q3⟩,q4⟩,q5⟩,q6⟩:=hb;rw [zab (by simpa using q1)] at q2;rw [zab (by rw [zab (by simpa using q1)];simp [q2];omega)] at q3;obtain ⟨s1,s2⟩:=h2 q2;obtain ⟨s3,s4⟩:=h4 q3;exact ⟨⟨⟨by omega,by omega,by omega,s4⟩,by omega,by omega,by omega,hu,s2⟩,by omega,s1,s3,by omega,by omega,by omega⟩
theorem SV (m:ah):∃ b,rz m=some b/\(b=true->yZ m):=by
 unfold rz;obtain ⟨b,h1,h2⟩:=ti (step:=λi:Int=>kn m i) (λb=>b=true->yZ m) (λi:Int=>0<=i/\i<=31/\i<=(m.usages.length:Int)/\∀ u,u∈m.usages.take i.toNat->Sm (I9 u)) (λi=>(31-i).toNat) (λi hI=>by
  obtain ⟨h0,h1,h2,h3⟩:=hI;show (∃ r,kn m i=_/\_)∨∃ s',kn m i=_/\_;unfold kn;by_cases h:i<(m.usages.length:Int)/\i<31
  ·rw [zab (by simp [h]),af (by omega),af (by omega)];by_cases hs:Sm (I9 (nth m.usages i.toNat))
   ·have uz:=hs;unfold Sm I9 at uz;simp only at uz;rw [zaa (by simp;omega),af (by omega)];refine .inr ⟨i+1,rfl,⟨by omega,by omega,by omega,?_⟩,by omega⟩;rw [show (i+1).toNat=i.toNat+1 from by omega,rq (by omega)];intro r hr;rcases zbi.1 hr with hr|hr
    ·exact h3 r hr
    ·simp at hr;subst hr;exact hs
   ·have uz:=hs;unfold Sm I9 at uz;simp only at uz;rw [zab (by simp;omega)];exact .inl ⟨_,rfl,by simp⟩
  ·rw [zaa (by simp;omega)];obtain ⟨b,e1,e2⟩:=OV m;rw [e1];refine .inl ⟨b,rfl,λhb=>?_⟩;by_cases hi:i=m.usages.length
   ·refine e2 hb λu hu=>h3 u ?_
    rw [zcc (by omega)];exact hu
   ·exfalso;unfold iU at e1;obtain ⟨b1,h1,_⟩:=NJ m.aP;obtain ⟨b2,h3,_⟩:=NJ m.aM.open_;rw [h1,h3,iq,zac,iq,zac] at e1;rw [hb] at e1;simp at e1;omega) (s:=0) ⟨by omega,by omega,by omega,by simp⟩ (by omega)
 exact ⟨b,h1,h2⟩
def ky (r:aa):Int×Int:=(r.source,r.aZ)
def uw {α:Type} (a b:List α):Prop:=∃ z,(a++z).Perm b
theorem uw.refl {α:Type} (a:List α):uw a a:=⟨[],by simp⟩
theorem uw.of {α:Type} {a b:List α} (h:a.Perm b):uw a b:=⟨[],by simpa using h⟩
theorem uw.trans {α:Type} {a b c:List α}:uw a b->uw b c->uw a c:=λ⟨z,h⟩ ⟨y,k⟩=>⟨z++y,by
 rw [←zax];exact (h.append_right y).trans k⟩
theorem uw.append {α:Type} {a b c d:List α}:uw a b->uw c d->uw (a++c) (b++d):=λ⟨z,h⟩ ⟨y,k⟩=>⟨z++y,by
 refine List.Perm.trans ?_ (h.append k);rw [zax,zax];refine List.Perm.append_left a ?_;rw [←zax,←zax];exact zfn.append_right y⟩
theorem uw.nodup {α:Type} {a b:List α}:uw a b->b.Nodup->a.Nodup:=λ⟨z,h⟩ k=>(zdf.1 (h.nodup_iff.2 k)).1
theorem uw.mem {α:Type} {a b:List α} {x:α}:uw a b->x∈a->x∈b:=λ⟨z,h⟩ k=>h.mem_iff.1 (zeu _ k)
def Za (w:aa):Prop:=fM w=0/\w.part=0
theorem La {l:List aa} {w:aa} (h:gH l=some w):Za w/\∃ q t,l=q::t/\ky w=ky q:=by
 cases l with
 | nil=>simp [gH] at h
 | cons q t =>
  rw [show gH (q::t)=(if ((q::t).all λp=>decide (p.part≠0/\fM p=0/\Comm p q))=true/\fM (GP q (AL (q::t)))=0 then some (GP q (AL (q::t))) else none) from rfl] at h;split at h
  ·rename_i hc;cases h;exact ⟨⟨hc.2,rfl⟩,q,t,rfl,rfl⟩
  ·cases h
theorem Rk {q:aa} (h:fM q=0):Za (sF q):=by
 refine ⟨?_,rfl⟩;unfold sF GP;unfold fM at h ⊢;simp only;split at h;· cases h
 split at h;· cases h
 split at h;· cases h
 split at h;· cases h
 split at h;· cases h
 split at h;· cases h
 split at h;· cases h
 split at h;· cases h
 split at h;· cases h
 split at h;· cases h
 rename_i q1 q2 q3 q4 q5 q6 q7 q8 q9 q10;rw [zaa q1,zaa q2,zaa q3,zaa q4,zaa q5,zaa q6,zaa (by omega),zaa (by simp),zaa q9,zaa q10]
theorem Rl (l:List aa) (h:∀ r,r∈l->fM r=0):(∀ w,w∈BW l->Za w)/\uw ((BW l).map ky) (l.map ky):=by
 cases l with
 | nil=>exact ⟨λw h=>by simp [BW] at h,.refl _⟩
 | cons x t =>
  rw [yV];generalize hp:dZ 0 (qO (x::t) (gi false x 1 0 (x::t)) (gi false x 1 0 (x::t)).length) (x::t)=p;have TT:(p.1++p.2).Perm (x::t):=by rw [←hp];exact qN _ _ _
  have sW:∀ r,r∈p.2->fM r=0:=λr hr=>h r (TT.mem_iff.1 (zes _ hr))
  refine ⟨λw hw=>?_,?_⟩
  ·rcases zbi.1 hw with hw|hw
   ·cases hq:gH p.1 with
    | none=>rw [hq] at hw;simp at hw
    | some v =>
     rw [hq] at hw;simp at hw;subst hw;exact (La hq).1
   ·obtain ⟨q,hq,rfl⟩:=zdh.1 hw;exact Rk (sW q hq)
  ·refine uw.trans ?_ (.of (TT.map ky));rw [zdm,zdm,List.map_map];refine uw.append ?_ (uw.refl _);cases hq:gH p.1 with
   | none=>exact ⟨p.1.map ky,by simp⟩
   | some v =>
    obtain ⟨_,q,t',e1,e2⟩:=La hq;rw [e1,zap,←e2];exact ⟨t'.map ky,.refl _⟩
theorem Lb (b:Int):∀ (m:Nat) (l:List aa),(∀ r,r∈l->fM r=0)->(∀ w,w∈(jJ b m l).1->Za w)/\uw (((jJ b m l).1++(jJ b m l).2).map ky) (l.map ky)
 | 0,l,_=>⟨λw h=>by simp [jJ] at h,⟨l.map ky,by simp [jJ]⟩⟩
 | m+1,[],_=>⟨λw h=>by simp [jJ] at h,⟨[],by simp [jJ]⟩⟩
 | m+1,x::l,h=>by
  have RC:=pZ x (x::l);have rv:∀ r,r∈dJ x (x::l)->fM r=0:=λr hr=>h r (by rw [←RC];exact zeu _ hr);have PT:∀ r,r∈jn x (x::l)->fM r=0:=λr hr=>h r (by rw [←RC];exact zes _ hr);obtain ⟨i1,i2⟩:=Lb b m (jn x (x::l)) PT;obtain ⟨e1,e2⟩:=Rl (dJ x (x::l)) rv;unfold jJ;have hl:(x::l).map ky=(dJ x (x::l)).map ky++(jn x (x::l)).map ky:=by rw [←zdm,RC]
  split
  ·refine ⟨i1,?_⟩;rw [hl];refine uw.trans ?_ ((uw.refl _).append i2);simp only [zdm];refine .of ?_;rw [←zax,←zax];exact zfn.append_right _
  ·refine ⟨λw hw=>?_,?_⟩
   ·rcases zbi.1 hw with hw|hw
    ·exact e1 w hw
    ·exact i1 w hw
   ·rw [hl];simp only;rw [zax,zdm];exact e2.append i2
def uF (cP:List Event) (r:aa) (id:Int):aA×Int:=I3 (jK ((KY r.start cP w0).getD w0)) r id
theorem WK (cP:List Event) (r:aa) (id:Int) (hl:cP.length<=5000) (hs:Sm r):fU cP r id=some (uF cP r id):=by
 obtain ⟨w,h1,h2⟩:=Q7 cP r id hl hs;unfold uF;rw [h1];exact h2
theorem TU (cP:List Event) (r:aa) (id:Int) (hl:cP.length<=40) (hv:VC b0 0 cP) (hs:Sm r):mK cP r id=some (uF cP r id):=by
 obtain ⟨w,b,q1,q2,q3⟩:=SQ cP r.start hl hv;unfold uF;rw [q1];exact Rg cP r id (by omega) q2 q3 (by omega) hs
def za (cP:List Event):List aa->List aA->List aa->List aA×List aa
 | [],us,ws=>(us,ws)
 | r::l,us,ws=>if (uF cP r ((us.length:Int)+1)).2=0 then za cP l (us++[(uF cP r ((us.length:Int)+1)).1]) ws else za cP l us (ws++[r])
theorem Zb (cP:List Event) (hl:cP.length<=5000) (l:List aa) (us:List aA) (ws:List aa) (hs:∀ r,r∈l->Sm r) (h1:l.length<=10000) (h2:us.length<=10000) (h3:ws.length<=10000) (a:List Range) (b:List aa) (c:List Head) (d:List ak) :
  fG l a b c cP us ws d=some (za cP l us ws)/\eS l a b c d cP us ws=some (za cP l us ws)/\eT l a b c d cP us ws=some (za cP l us ws):=by
 refine ⟨?_,?_,?_⟩
 ·unfold fG;refine bC (step:=λs:List aA×List aa×Int=>dq l cP s.1 s.2.1 s.2.2) l (λs=>s.2.2) (λs t=>some (za cP t s.1 s.2.1)) (λs t=>(s.1.length+t.length<=20000/\s.2.1.length+t.length<=20000)/\∀ r,r∈t->Sm r) (by omega) ?_ ?_ (s:=(us,ws,0)) rfl ⟨⟨by simp only;omega,by simp only;omega⟩,hs⟩
  ·rintro ⟨u,w,i⟩ _ h4;simp only at h4;refine ⟨_,?_,rfl⟩;unfold dq;rw [zaa (by simp only [zah];omega)];rfl
  ·rintro ⟨u,w,i⟩ r t ⟨⟨h4,h5⟩,h6⟩ h7 h8 h9 Ks;simp only at h4 h5 h7 h8 h9 Ks;rw [zag] at h4 h5;unfold dq;simp only;rw [zab (by simpa using h8),af ⟨h7,h8⟩,af ⟨by omega,by omega⟩,h9,WK cP r _ hl (h6 r (zao ..)),zac];by_cases he:(uF cP r ((u.length:Int)+1)).2=0
   ·rw [zab (by simpa using he),af (by simp only [zan];omega),af ⟨by omega,by omega⟩];refine .inr ⟨(u++[(uF cP r ((u.length:Int)+1)).1],w,i+1),rfl,⟨⟨by simp only [zai,zan];omega,by simp only;omega⟩,λz hz=>h6 z (zal _ hz)⟩,rfl,?_⟩;simp only;rw [za,zab he]
   ·rw [zaa (by simpa using he),af (by simp only [zan];omega),af ⟨by omega,by omega⟩];refine .inr ⟨(u,w++[r],i+1),rfl,⟨⟨by simp only;omega,by simp only [zai,zan];omega⟩,λz hz=>h6 z (zal _ hz)⟩,rfl,?_⟩;simp only;rw [za,zaa he]
 ·unfold eS;refine bC (step:=λs:List aA×Int×List aa=>cW l cP s.1 s.2.1 s.2.2) l (λs=>s.2.1) (λs t=>some (za cP t s.1 s.2.2)) (λs t=>(s.1.length+t.length<=20000/\s.2.2.length+t.length<=20000)/\∀ r,r∈t->Sm r) (by omega) ?_ ?_ (s:=(us,0,ws)) rfl ⟨⟨by simp only;omega,by simp only;omega⟩,hs⟩
  ·rintro ⟨u,i,w⟩ _ h4;simp only at h4;refine ⟨_,?_,rfl⟩;unfold cW;rw [zaa (by simp only [zah];omega)];rfl
  ·rintro ⟨u,i,w⟩ r t ⟨⟨h4,h5⟩,h6⟩ h7 h8 h9 Ks;simp only at h4 h5 h7 h8 h9 Ks;rw [zag] at h4 h5;unfold cW;simp only;rw [zab (by simpa using h8),af ⟨h7,h8⟩,af ⟨by omega,by omega⟩,h9,WK cP r _ hl (h6 r (zao ..)),zac];by_cases he:(uF cP r ((u.length:Int)+1)).2=0
   ·rw [zab (by simpa using he),af (by simp only [zan];omega),af ⟨by omega,by omega⟩];refine .inr ⟨(u++[(uF cP r ((u.length:Int)+1)).1],i+1,w),rfl,⟨⟨by simp only [zai,zan];omega,by simp only;omega⟩,λz hz=>h6 z (zal _ hz)⟩,rfl,?_⟩;simp only;rw [za,zab he]
   ·rw [zaa (by simpa using he),af (by simp only [zan];omega),af ⟨by omega,by omega⟩];refine .inr ⟨(u,i+1,w++[r]),rfl,⟨⟨by simp only;omega,by simp only [zai,zan];omega⟩,λz hz=>h6 z (zal _ hz)⟩,rfl,?_⟩;simp only;rw [za,zaa he]
 ·unfold eT;refine bC (step:=λs:List aA×List aa×Int=>cX l cP s.1 s.2.1 s.2.2) l (λs=>s.2.2) (λs t=>some (za cP t s.1 s.2.1)) (λs t=>(s.1.length+t.length<=20000/\s.2.1.length+t.length<=20000)/\∀ r,r∈t->Sm r) (by omega) ?_ ?_ (s:=(us,ws,0)) rfl ⟨⟨by simp only;omega,by simp only;omega⟩,hs⟩
  ·rintro ⟨u,w,i⟩ _ h4;simp only at h4;refine ⟨_,?_,rfl⟩;unfold cX;rw [zaa (by simp only [zah];omega)];rfl
  ·rintro ⟨u,w,i⟩ r t ⟨⟨h4,h5⟩,h6⟩ h7 h8 h9 Ks;simp only at h4 h5 h7 h8 h9 Ks;rw [zag] at h4 h5;unfold cX;simp only;rw [zab (by simpa using h8),af ⟨h7,h8⟩,af ⟨by omega,by omega⟩,h9,WK cP r _ hl (h6 r (zao ..)),zac];by_cases he:(uF cP r ((u.length:Int)+1)).2=0
   ·rw [zab (by simpa using he),af (by simp only [zan];omega),af ⟨by omega,by omega⟩];refine .inr ⟨(u++[(uF cP r ((u.length:Int)+1)).1],w,i+1),rfl,⟨⟨by simp only [zai,zan];omega,by simp only;omega⟩,λz hz=>h6 z (zal _ hz)⟩,rfl,?_⟩;simp only;rw [za,zab he]
   ·rw [zaa (by simpa using he),af (by simp only [zan];omega),af ⟨by omega,by omega⟩];refine .inr ⟨(u,w++[r],i+1),rfl,⟨⟨by simp only;omega,by simp only [zai,zan];omega⟩,λz hz=>h6 z (zal _ hz)⟩,rfl,?_⟩;simp only;rw [za,zaa he]
theorem Et (cP:List Event):∀ (l:List aa) (us:List aA) (ws:List aa),(za cP l us ws).1.length+(za cP l us ws).2.length=us.length+ws.length+l.length
 | [],us,ws=>by simp [za]
 | r::l,us,ws=>by
  unfold za;split
  ·rw [Et cP l];simp;omega
  ·rw [Et cP l];simp;omega
theorem TV (cP:List Event) (hl:cP.length<=40) (hv:VC b0 0 cP) (m:ah) (l:List aa) (hs:∀ r,r∈l->Sm r) (h1:l.length<=10000) (h2:m.usages.length<=10000) (h3:m.aP.length<=10000) (h4:m.bu.length<=10000) :
  oW cP m l=some ⟨m.aM,(za cP l m.usages m.aP).1,(za cP l m.usages m.aP).2,m.bu⟩/\Dw cP m l=some (m.aM.seen,m.aM.open_,m.aM.aT,(za cP l m.usages m.aP).1,(za cP l m.usages m.aP).2,m.bu):=by
 refine ⟨?_,?_⟩
 ·unfold oW;simp only [zbz,zbc,zbp];rw [af (by omega),af (by omega)];refine bC (step:=λs:List aA×List aa×Int=>mM cP m l s.1 s.2.1 s.2.2) l (λs=>s.2.2) (λs t=>some (⟨m.aM,(za cP t s.1 s.2.1).1,(za cP t s.1 s.2.1).2,m.bu⟩:ah)) (λs t=>(s.1.length+t.length<=20000/\s.2.1.length+t.length<=20000)/\∀ r,r∈t->Sm r) (by omega) ?_ ?_ (s:=(m.usages,m.aP,0)) rfl ⟨⟨by simp only;omega,by simp only;omega⟩,hs⟩
  ·rintro ⟨u,w,i⟩ _ h4;simp only at h4;refine ⟨_,?_,rfl⟩;unfold mM mL;rw [zaa (by simp only [zah];omega),af (by omega)];rfl
  ·rintro ⟨u,w,i⟩ r t ⟨⟨h4,h5⟩,h6⟩ h7 h8 h9 Ks;simp only at h4 h5 h7 h8 h9 Ks;rw [zag] at h4 h5;unfold mM;simp only;rw [zab (by simpa using h8),af ⟨h7,h8⟩,af ⟨by omega,by omega⟩,h9,TU cP r _ hl hv (h6 r (zao ..)),zac];by_cases he:(uF cP r ((u.length:Int)+1)).2=0
   ·rw [zab (by simpa using he),af (by simp only [zan];omega),af ⟨by omega,by omega⟩];refine .inr ⟨(u++[(uF cP r ((u.length:Int)+1)).1],w,i+1),rfl,⟨⟨by simp only [zai,zan];omega,by simp only;omega⟩,λz hz=>h6 z (zal _ hz)⟩,rfl,?_⟩;simp only;rw [za,zab he]
   ·rw [zaa (by simpa using he),af ⟨h7,h8⟩,af (by simp only [zan];omega),af ⟨by omega,by omega⟩];refine .inr ⟨(u,w++[r],i+1),rfl,⟨⟨by simp only;omega,by simp only [zai,zan];omega⟩,λz hz=>h6 z (zal _ hz)⟩,rfl,?_⟩;simp only;rw [za,zaa he]
 ·unfold Dw;simp only [zbz,zbc,zbp];rw [af (by omega),af (by omega)];refine bC (step:=λs:List aA×List aa×Int=>pR cP m l s.1 s.2.1 s.2.2) l (λs=>s.2.2) (λs t=>some (m.aM.seen,m.aM.open_,m.aM.aT,(za cP t s.1 s.2.1).1,(za cP t s.1 s.2.1).2,m.bu)) (λs t=>(s.1.length+t.length<=20000/\s.2.1.length+t.length<=20000)/\∀ r,r∈t->Sm r) (by omega) ?_ ?_ (s:=(m.usages,m.aP,0)) rfl ⟨⟨by simp only;omega,by simp only;omega⟩,hs⟩
  ·rintro ⟨u,w,i⟩ _ h4;simp only at h4;refine ⟨_,?_,rfl⟩;unfold pR yg;rw [zaa (by simp only [zah];omega),af (by simp only [zbc];omega)];rfl
  ·rintro ⟨u,w,i⟩ r t ⟨⟨h4,h5⟩,h6⟩ h7 h8 h9 Ks;simp only at h4 h5 h7 h8 h9 Ks;rw [zag] at h4 h5;unfold pR;simp only;rw [zab (by simpa using h8),af ⟨h7,h8⟩,af ⟨by omega,by omega⟩,h9,TU cP r _ hl hv (h6 r (zao ..)),zac];by_cases he:(uF cP r ((u.length:Int)+1)).2=0
   ·rw [zab (by simpa using he),af (by simp only [zan];omega),af ⟨by omega,by omega⟩];refine .inr ⟨(u++[(uF cP r ((u.length:Int)+1)).1],w,i+1),rfl,⟨⟨by simp only [zai,zan];omega,by simp only;omega⟩,λz hz=>h6 z (zal _ hz)⟩,rfl,?_⟩;simp only;rw [za,zab he]
   ·rw [zaa (by simpa using he),af ⟨h7,h8⟩,af (by simp only [zan];omega),af ⟨by omega,by omega⟩];refine .inr ⟨(u,w++[r],i+1),rfl,⟨⟨by simp only;omega,by simp only [zai,zan];omega⟩,λz hz=>h6 z (zal _ hz)⟩,rfl,?_⟩;simp only;rw [za,zaa he]
structure TW (m:ah):Prop where
 OO:yz m.aM
 seen:m.aM.seen.length<=600
 aT:m.aM.aT.length<=600
 opens:m.aM.open_.length<=600
 l1:m.usages.length<=3000
 l2:m.aP.length<=3000
 l3:m.bu.length<=3000
 s:∀ r,r∈m.aP->Sm r
def MB (cP:List Event) (m:ah):ah:=⟨m.aM,(za cP m.aP m.usages []).1,(za cP m.aP m.usages []).2,m.bu⟩
def MC (cP:List Event) (m:ah) (t:Int):ah:=⟨(GR m.aM t).1,(za cP (GR m.aM t).2 m.usages m.aP).1,(za cP (GR m.aM t).2 m.usages m.aP).2,m.bu⟩
theorem NK (v:aH) (t:Int) (h:yz v):∀ r,r∈(GR v t).2->Za r:=λr hr=>(Lb t _ _ λx hx=>(h.opn.ok x hx).1).1 r hr
theorem Ja (v:aH) (t:Int):(GR v t).1.open_.length+(GR v t).2.length<=v.open_.length:=by
 have:=KR t v.open_.length v.open_;unfold GR;simp only;omega
theorem Rm (cP:List Event) (m:ah) (h:TW m):kt cP m=some (m.aM.seen,m.aM.open_,m.aM.aT,m.usages,m.bu,cP,m.aP)/\fY cP m=some (m.aM.seen,m.aM.open_,m.aM.aT,m.usages,m.bu,cP,m.aP):=by
 have h1:=h.seen;have h2:=h.aT;have h3:=h.opens;have h4:=h.l1;have h5:=h.l3;unfold kt fY iz dX kS s7 nX;rw [af (by omega),af (by omega),af (by omega),af (by omega),af (by omega)];exact ⟨rfl,rfl⟩
theorem SX (cP:List Event) (hl:cP.length<=5000) (m:ah) (h:TW m):gX cP m=some (MB cP m):=by
 have k1:=h.l1;have k2:=h.l2;have k3:=h.l3;unfold gX MB;rw [(Rm cP m h).2,zac];simp only;rw [(Zb cP hl _ _ _ h.s (by omega) (by omega) (by simp) _ _ _ _).2.1,zac]
theorem Rn (cP:List Event) (hl:cP.length<=5000) (m:ah) (t:Int) (h:TW m):jH cP m t=some (MC cP m t):=by
 have k1:=h.l1;have k2:=h.l2;have k3:=h.l3;have hw:=NK m.aM t h.OO;have hc:=Ja m.aM t;have ho:=h.opens;unfold jH MC;rw [(Rm cP m h).2,zac];unfold dX;simp only;rw [af (by omega),zac,SE _ _ h.OO h.seen h.opens h.aT,zac,(Zb cP hl _ _ _ (λr hr=>IW (hw r hr).1) (by omega) (by omega) (by omega) _ _ _ _).2.2,zac]
section doc
variable (cP:List Event) (hl:cP.length<=40) (hv:VC b0 0 cP)
include hl hv
theorem Ro (m:ah) (h:TW m):rQ cP m=some (MB cP m):=by
 have k1:=h.l1;have k2:=h.l2;have k3:=h.l3;unfold rQ MB;rw [(TV cP hl hv ⟨m.aM,m.usages,[],m.bu⟩ _ h.s (by omega) (by simp only;omega) (by simp) (by simp only;omega)).1];rfl
theorem OW (m:ah) (t:Int) (h:TW m):rU cP m t=some (MC cP m t):=by
 have k1:=h.l1;have k2:=h.l2;have k3:=h.l3;have hw:=NK m.aM t h.OO;have hc:=Ja m.aM t;have ho:=h.opens;unfold rU MC;rw [Q0 _ _ h.OO h.seen h.opens h.aT,zac,(TV cP hl hv m _ (λr hr=>IW (hw r hr).1) (by omega) (by omega) (by omega) (by omega)).1,zac]
end doc
theorem Rp (a:List aA) (hl:a.length<=10000):ub a a=some true:=by
 unfold ub;rw [zaa (by simp),ur a (λ_=>true) true true (by omega) (λi h0 h1=>?_) (λi hi=>?_)]
 ·simp
 ·unfold rj;rw [zab (by simpa using h1),af (by omega),af (by omega),zaa (by rw [Q8];simp),af (by omega)];rfl
 ·unfold rj;rw [zaa (by simp;omega)]
theorem D8 (a:List ak) (hl:a.length<=10000):jE a a=some true:=by
 unfold jE;rw [zaa (by simp),ur a (λ_=>true) true true (by omega) (λi h0 h1=>?_) (λi hi=>?_)]
 ·simp
 ·unfold jD;rw [zab (by simpa using h1),af (by omega),af (by omega),zaa (by rw [ak.xc];simp),af (by omega)];rfl
 ·unfold jD;rw [zaa (by simp;omega)]
theorem Lc (m:ah) (h1:m.aM.seen.length<=10000) (h2:m.aM.open_.length<=10000) (h3:m.aM.aT.length<=10000) (h4:m.usages.length<=10000) (h5:m.aP.length<=10000) (h6:m.bu.length<=10000):mN m m=some true:=by
 unfold mN;rw [QZ _ h1 h2 h3,Rp _ h4,KQ _ h5,D8 _ h6];rfl
theorem WL (m:ah):∃ b,kK m=some b/\(b=true->yZ m/\Mz m):=by
 unfold kK;obtain ⟨c,h1,h2⟩:=SV m;rw [h1,zac];cases c with
 | false=>exact ⟨_,rfl,by simp⟩
 | true =>
  obtain ⟨b,e1,q1⟩:=SS m (h2 rfl).sm;rw [e1];exact ⟨b,by simp [ct],λh=>⟨h2 rfl,q1.1 h⟩⟩
theorem yZ.med {m:ah} (h:yZ m) (g:Mz m):TW m:=⟨g.aM,by have:=h.e;omega,by have:=h.h;omega,by have:=h.o;omega,by have:=h.u;omega,by have:=h.s;omega,by have:=h.r;omega,h.sm.s⟩
theorem OX (cP:List Event) (m:ah) (h:TW m):mN (MB cP m) (MB cP m)=some true:=by
 have k1:=h.l1;have k2:=h.l2;have k3:=h.l3;have k4:=h.opens;have k5:=h.seen;have k6:=h.aT;have hp:=Et cP m.aP m.usages [];simp only [zbc] at hp;unfold MB;apply Lc <;> (simp only;omega)
theorem OY (cP:List Event) (m:ah) (t:Int) (h:TW m):mN (MC cP m t) (MC cP m t)=some true:=by
 have k1:=h.l1;have k2:=h.l2;have k3:=h.l3;have k4:=h.opens;have k5:=h.seen;have k6:=h.aT;have hc:=Ja m.aM t;have hp:=Et cP (GR m.aM t).2 m.usages m.aP;unfold MC;apply Lc
 ·show m.aM.seen.length<=_;omega
 ·simp only;omega
 ·show m.aM.aT.length<=_;omega
 ·simp only;omega
 ·simp only;omega
 ·simp only;omega
theorem F1 (cP:List Event) (m:ah) (t:Int):iC cP m t=some true:=by
 unfold iC;obtain ⟨c1,h1,q1⟩:=Y3 cP;obtain ⟨c2,h2,q2⟩:=WL m;rw [h1,h2,SU];simp only [zac,iq];cases c1 with
 | false=>rfl
 | true =>
  cases c2 with
  | false=>rfl
  | true =>
   obtain ⟨hl,_,hv⟩:=q1 rfl;obtain ⟨hs,hg⟩:=q2 rfl;simp only [zck,zcs,zcf,zfs,zbf,zbw];have hm:=hs.med hg;rw [SX cP (by omega) m hm,Ro cP hl hv m hm,zac,zac,OX cP m hm,zac,Rn cP (by omega) m t hm,OW cP hl hv m t hm];simp only [ct,zcf,zac];rw [OY cP m t hm];rfl
end Go.Proofs.YtimkfiaffohhkaaGreatDoor
