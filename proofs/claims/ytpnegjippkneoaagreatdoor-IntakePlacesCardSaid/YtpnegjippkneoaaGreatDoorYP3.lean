/- Our own texts LW5 LW6 LW7 LW8 LW9 LW10 LW11 R1 JA KA KB KC KD KE KF MA MB MC MD ME MF MG of this seat in one. -/
import Derived.Test.YtpnegjippkneoaaGreatDoorYP2
import Derived.Lib.ItoaLen
set_option linter.unusedSimpArgs false
set_option linter.unusedVariables false
set_option linter.unusedSectionVars false
set_option maxRecDepth 100000
set_option maxHeartbeats 1000000
namespace Go.Proofs.YtpnegjippkneoaaGreatDoor
open Go.RowKit Go.Abs Go.Proofs.Tryz
theorem c_g_correlate_pick {v0parts:List Record} {v1at:List Int} {n0p:Nat} {y0t0p:List Record} {lo_v0parts:Nat} (hw_v0parts:(y0t0p.drop lo_v0parts).take v0parts.length=v0parts) {r:(List Record)×(List Record)} (H:g_correlate_pick v0parts v1at=some r):ACallS prog 84 [.vw 0 n0p lo_v0parts v0parts.length,.d (slOf 1 rI v1at)] ⟨[],[⟨49,12,n0p,some (y0t0p.map Record.row)⟩]⟩ (QE (.d (.tup [slOf 12 Record.row r.1,slOf 12 Record.row r.2])) ⟨[],[⟨49,12,n0p,some (y0t0p.map Record.row)⟩]⟩):=by
 obtain ⟨i4,hi4,hz4,hs4,hb4⟩:=in_4
 obtain ⟨i49,hi49,hz49,hs49,hb49⟩:=in_49
 refine ACallS.keep ?_
 refine ACallS.enter func84 rfl ntmps84 rfl fun S hS=>?_
 unfold g_correlate_pick at H
 refine .A 17 [.v (.mp 0) ⟨[.map (mEnc (fun n=>Value.int .i64 n) (fun x=>cB x) ([]:List (Int×Bool)))],[⟨49,12,n0p,some (y0t0p.map Record.row)⟩]⟩,.i (v1at.length:Int)] rfl ⟨s69.n rfl rfl,.e (v_makeMap) rfl⟩ ?_
 refine .tok (i:=4) (e:=49) (sz:=12) rfl ?_
 refine .blockJoin2 (ι:=List Record×(List (Int×Bool))) (fun ⟨v4pickedj1,o0c0j1⟩=>[(0,.vw 0 n0p lo_v0parts v0parts.length),(4,.tsl 12 (v4pickedj1.map Record.row) 1),(5,.d (nilD)),(6,.mp 0)]) (fun ⟨v4pickedj1,o0c0j1⟩=>⟨[.map (mEnc (fun n=>Value.int .i64 n) (fun x=>cB x) o0c0j1)],[⟨49,12,n0p,some (y0t0p.map Record.row)⟩,⟨49,12,v4pickedj1.length,none⟩]⟩) (fun s=>g_correlate_pick_j1 v0parts s.1 s.2=some r) ?_ ?_
 ·rintro ⟨v4pickedj1,o0c0j1⟩ H
  replace H:g_correlate_pick_j1 v0parts v4pickedj1 o0c0j1=some r:=H
  unfold g_correlate_pick_j1 at H
  refine .A 8 [.i (v0parts.length:Int)] rfl (OpQ.g (q_lenW underlying23 rfl)) ?_
  refine .tok (i:=5) (e:=49) (sz:=12) rfl ?_
  obtain ⟨n1,H⟩:=loop_some H
  refine .loop (ι:=Nat×(List Record×Int)) (fun ⟨_,v5othersl1,v30l1⟩=>[(4,.tsl 12 (v4pickedj1.map Record.row) 1),(5,.tsl 12 (v5othersl1.map Record.row) 2),(6,.mp 0),(28,.vw 0 n0p lo_v0parts v0parts.length),(29,.d (cI (v0parts.length:Int))),(30,.d (cI v30l1))]) (fun ⟨_,v5othersl1,v30l1⟩=>⟨[.map (mEnc (fun n=>Value.int .i64 n) (fun x=>cB x) o0c0j1)],[⟨49,12,n0p,some (y0t0p.map Record.row)⟩,⟨49,12,v4pickedj1.length,none⟩,⟨49,12,v5othersl1.length,none⟩]⟩) (fun p=>iter (fun s=>g_correlate_pick_l1 v0parts v4pickedj1 o0c0j1 s.1 s.2) p.1 p.2=some r) (·.1) (n1,(([]:List Record),0)) H (.cons rfl (.rfl' _) (.cons rfl (.rfl' _) (.cons rfl (.rfl' _) (.cons rfl (.rfl' _) (.cons rfl (.rfl' _) (.cons rfl (.rfl' _) (.nil))))))) rfl ?_
  rintro ⟨m1,v5othersl1,v30l1⟩ HI ih1
  obtain ⟨n1,q1,hm1,H,HK1⟩:=iter_succ HI
  clear HI
  replace H:g_correlate_pick_l1 v0parts v4pickedj1 o0c0j1 v5othersl1 v30l1=some q1:=H
  unfold g_correlate_pick_l1 at H
  refine .A 5 [] rfl trivial ?_
  refine .ite H rfl (fun H=>?_) (fun H=>?_)
  ·obtain ⟨hk1,H⟩:=ck_some H
   obtain ⟨hk2,H⟩:=ck_some H
   refine .A 19 [.g (.vp 0 n0p (lo_v0parts+v30l1.toNat) 0),.f 12 (.d (.agg (Record.row (nth v0parts v30l1.toNat)))),.r 1,.b ((alook o0c0j1 v30l1).getD false)] rfl ⟨OpQ.g (q_lookupD (intKF underlying3) (l:=o0c0j1) (val:=(fun x=>cB x)) (k:=v30l1) (a0:=false) underlying149 hi4 hz4 (show DLe (cB false) (cB false) from .rfl' _) rfl rfl rfl (fun _ _ _ h=>exKey h)),OpQ.g (q_loadVpAW (l:=y0t0p) (a:=v0parts) (row:=Record.row) (lo:=lo_v0parts) (i:=v30l1.toNat) (cs:=(Record.row (nth v0parts v30l1.toNat))) hw_v0parts one_49 sz_49 rfl rfl hk2 (Nat.le_of_ble_eq_true rfl) rfl),OpQ.g (q_idxW (row:=Record.row) (l:=y0t0p) (i:=v30l1) underlying23 hi49 hs49 rfl rfl rfl hk1)⟩ ?_
   refine .ite H rfl (fun H=>?_) (fun H=>?_)
   ·obtain ⟨hk3,H⟩:=ck_some H
    obtain ⟨hk4,H⟩:=ck_some H
    refine .A 12 [.d (slOf 12 Record.row ([nth v0parts v30l1.toNat]:List Record)),.a 2 49 12 Record.row (v5othersl1++([nth v0parts v30l1.toNat]:List Record)),.i (v30l1+1)] rfl ⟨g_addI rfl rfl hk4,s23.a rfl rfl rfl rfl hk3,g_buildSlice1 underlying23 hi49 hs49 hz49 rfl rfl rfl rfl rfl⟩ ?_
    cases H
    exact .t 1 3 (ih1 (n1,(v5othersl1++([nth v0parts v30l1.toNat]:List Record),v30l1+1)) HK1 hm1) rfl rfl rfl rfl (okBoth rfl (okCons okMap rfl)) hS rfl
   ·obtain ⟨hk5,H⟩:=ck_some H
    refine .A 6 [.i (v30l1+1)] rfl (g_addI rfl rfl hk5) ?_
    cases H
    exact .t 1 3 (ih1 (n1,(v5othersl1,v30l1+1)) HK1 hm1) rfl rfl rfl rfl (okBoth rfl (okCons okMap rfl)) hS rfl
  ·refine .A 8 [] rfl trivial ?_
   refine .R func84 results84 rfl ?_
   cases H
   cases HK1
   exact ⟨[],[0],rfl,rfl,(by first | rfl | (simp only [List.map_cons,List.map_nil,renMap,renArr,mergeSt]; rfl)),(by first | rfl | (simp only [List.map_cons,List.map_nil,renMap,renArr,mergeSt]; rfl)),(by first | rfl | (simp only [List.map_cons,List.map_nil,renMap,renArr,mergeSt]; rfl)),(by first | rfl | (simp only [List.map_cons,List.map_nil,renMap,renArr,mergeSt]; rfl)),(by first | rfl | (simp only [List.map_cons,List.map_nil,renMap,renArr,mergeSt]; rfl)),(by first | rfl | (simp only [List.map_cons,List.map_nil,renMap,renArr,mergeSt]; rfl)),.tupL (ds:=[slOf 12 Record.row v4pickedj1,slOf 12 Record.row v5othersl1]) ⟨.tsl _ _ _,.tsl _ _ _,trivial⟩⟩
 ·intro hj1 hj1x
  obtain ⟨n2,H⟩:=loop_some H
  refine .loop (ι:=Nat×(List Record×Int×(List (Int×Bool)))) (fun ⟨_,v4pickedl2,v14l2,o0c0l2⟩=>[(0,.vw 0 n0p lo_v0parts v0parts.length),(4,.tsl 12 (v4pickedl2.map Record.row) 1),(5,.d (nilD)),(6,.mp 0),(12,.d (slOf 1 rI v1at)),(13,.d (cI (v1at.length:Int))),(14,.d (cI v14l2))]) (fun ⟨_,v4pickedl2,v14l2,o0c0l2⟩=>⟨[.map (mEnc (fun n=>Value.int .i64 n) (fun x=>cB x) o0c0l2)],[⟨49,12,n0p,some (y0t0p.map Record.row)⟩,⟨49,12,v4pickedl2.length,none⟩]⟩) (fun p=>iter (fun s=>g_correlate_pick_l2 v0parts v1at s.1 s.2.1 s.2.2) p.1 p.2=some r) (·.1) (n2,(([]:List Record),0,([]:List (Int×Bool)))) H (.cons rfl (.rfl' _) (.cons rfl (.rfl' _) (.cons rfl (.rfl' _) (.cons rfl (.rfl' _) (.cons rfl (.rfl' _) (.cons rfl (.rfl' _) (.cons rfl (.rfl' _) (.nil)))))))) rfl ?_
  rintro ⟨m1,v4pickedl2,v14l2,o0c0l2⟩ HI ih1
  obtain ⟨n1,q1,hm1,H,HK1⟩:=iter_succ HI
  clear HI
  replace H:g_correlate_pick_l2 v0parts v1at v4pickedl2 v14l2 o0c0l2=some q1:=H
  unfold g_correlate_pick_l2 at H
  refine .A 5 [] rfl trivial ?_
  refine .ite H rfl (fun H=>?_) (fun H=>?_)
  ·obtain ⟨hk6,H⟩:=ck_some H
   obtain ⟨hk7,H⟩:=ck_some H
   obtain ⟨hk8,H⟩:=ck_some H
   obtain ⟨hk9,H⟩:=ck_some H
   obtain ⟨hk10,H⟩:=ck_some H
   refine .A 30 [.d (.ro (rI (nth v1at v14l2.toNat))),.u ⟨[.map (mEnc (fun n=>Value.int .i64 n) (fun x=>cB x) (aset o0c0l2 (nth v1at v14l2.toNat) true))],[⟨49,12,n0p,some (y0t0p.map Record.row)⟩,⟨49,12,v4pickedl2.length,none⟩]⟩,.g (.vp 0 n0p (lo_v0parts+(nth v1at v14l2.toNat).toNat) 0),.f 10 (.d (.agg (Record.row (nth v0parts (nth v1at v14l2.toNat).toNat)))),.d (slOf 12 Record.row ([nth v0parts (nth v1at v14l2.toNat).toNat]:List Record)),.a 1 49 12 Record.row (v4pickedl2++([nth v0parts (nth v1at v14l2.toNat).toNat]:List Record)),.i (v14l2+1)] rfl ⟨g_addI rfl rfl hk10,s23.a rfl rfl rfl rfl hk9,g_buildSlice1 underlying23 hi49 hs49 hz49 rfl rfl rfl rfl rfl,OpQ.g (q_loadVpAW (l:=y0t0p) (a:=v0parts) (row:=Record.row) (lo:=lo_v0parts) (i:=(nth v1at v14l2.toNat).toNat) (cs:=(Record.row (nth v0parts (nth v1at v14l2.toNat).toNat))) hw_v0parts one_49 sz_49 rfl rfl hk8 (Nat.le_of_ble_eq_true rfl) rfl),OpQ.g (q_idxW (row:=Record.row) (l:=y0t0p) (i:=nth v1at v14l2.toNat) underlying23 hi49 hs49 rfl rfl rfl hk7),.e (u_mapUpdateD (intKF underlying3) (l:=o0c0l2) (val:=(fun x=>cB x)) (k:=nth v1at v14l2.toNat) (a:=true) underlying149 rfl rfl rfl (fun _ _ _ h=>exKey h) rfl (.rfl' _)) rfl,s69.ix rfl rfl rfl hk6⟩ ?_
   cases H
   exact .z (ih1 (n1,(v4pickedl2++([nth v0parts (nth v1at v14l2.toNat).toNat]:List Record),v14l2+1,aset o0c0l2 (nth v1at v14l2.toNat) true)) HK1 hm1) rfl rfl
  ·refine .A 1 [] rfl trivial ?_
   obtain ⟨q0,H9,hq0⟩:=map_some' H; clear H; cases hq0
   cases HK1
   have H:=H9
   exact .z (hj1x (v4pickedl2,o0c0l2) H) rfl rfl
theorem c_g_correlate_join_v1 {v2c:CorrelateCall} {y0t0p:List Record} {y1t0p:List Record} {n0p:Nat} {r:(List Record)×(List Record)} (H:g_correlate_join_v1 v2c y0t0p y1t0p=some r):ACallS prog 76 [.vc 0 n0p,.tsl 12 (y1t0p.map Record.row) 1,.d (.agg (CorrelateCall.row v2c))] ⟨[],[⟨49,12,n0p,some (y0t0p.map Record.row)⟩,⟨49,12,y1t0p.length,none⟩]⟩ (QE (.tup [.vc 2 r.1.length,.tsl 12 (r.2.map Record.row) 1]) ⟨[],[⟨49,12,([]:List Record).length,none⟩,⟨49,12,r.2.length,none⟩,⟨49,12,r.1.length,some (r.1.map Record.row)⟩]⟩):=by
 obtain ⟨i49,hi49,hz49,hs49,hb49⟩:=in_49
 refine ACallS.keep ?_
 refine ACallS.enter func76 rfl ntmps76 rfl fun S hS=>?_
 unfold g_correlate_join_v1 at H
 refine .A 7 [.r 0] rfl trivial ?_
 refine .move (i:=0) rfl rfl ?_
 obtain ⟨n1,H⟩:=loop_some H
 refine .normV (l:=y0t0p) (row:=Record.row) (tk:=2) (fun z=>[(0,.vc 2 z),(1,.tsl 12 (y1t0p.map Record.row) 1),(5,.ref 0 0)]) (fun z=>⟨[.row 114 [.d (cI v2c.source),.d (cI v2c.number)]],[⟨49,12,([]:List Record).length,none⟩,⟨49,12,y1t0p.length,none⟩,⟨49,12,z,some (y0t0p.map Record.row)⟩]⟩) rfl (.cons rfl (.rfl' _) (.cons rfl (.rfl' _) (.cons rfl (.rfl' _) (.nil)))) rfl ?_
 refine .loop (ι:=Nat×(List Record×List Record)) (fun ⟨_,y2tl1,v1outl1⟩=>[(0,.vc 2 y2tl1.length),(1,.tsl 12 (v1outl1.map Record.row) 1),(5,.ref 0 0)]) (fun ⟨_,y2tl1,v1outl1⟩=>⟨[.row 114 [.d (cI v2c.source),.d (cI v2c.number)]],[⟨49,12,([]:List Record).length,none⟩,⟨49,12,v1outl1.length,none⟩,⟨49,12,y2tl1.length,some (y2tl1.map Record.row)⟩]⟩) (fun p=>iter (fun s=>g_correlate_join_v1_l1 v2c s.1 s.2) p.1 p.2=some r) (·.1) (n1,(y0t0p,y1t0p)) H (.cons rfl (.rfl' _) (.cons rfl (.rfl' _) (.cons rfl (.rfl' _) (.nil)))) rfl ?_
 rintro ⟨m1,y2tl1,v1outl1⟩ HI ih1
 obtain ⟨n1,q1,hm1,H,HK1⟩:=iter_succ HI
 clear HI
 replace H:g_correlate_join_v1_l1 v2c y2tl1 v1outl1=some q1:=H
 unfold g_correlate_join_v1_l1 at H
 obtain ⟨y1,hy1,H⟩:=bind_some' H
 refine .B 5 [] rfl trivial ?_
 refine .callF (en 35 rfl) rfl [] [2] (x:=.d (.tup [cI y1.1,cI y1.2])) (st':=⟨[.row 114 [.d (cI v2c.source),.d (cI v2c.number)]],[⟨49,12,([]:List Record).length,none⟩,⟨49,12,v1outl1.length,none⟩,⟨49,12,y2tl1.length,some (y2tl1.map Record.row)⟩]⟩) rfl (c_g_correlate_span (hy1)) ⟨.rfl' _,.rfl' _,trivial⟩ rfl rfl rfl rfl rfl rfl ?_
 refine .A 7 [] rfl trivial ?_
 obtain ⟨hk1,H⟩:=ck_some H
 obtain ⟨hk2,H⟩:=ck_some H
 obtain ⟨y2,hy2,H⟩:=bind_some' H
 obtain ⟨y3,hy3,H⟩:=bind_some' H
 refine .orders2 14 8 9 [⟨[.row 114 [.d (cI v2c.source),.d (cI v2c.number)]],[⟨49,12,([]:List Record).length,none⟩,⟨49,12,v1outl1.length,none⟩,⟨49,12,y2tl1.length,some (y2tl1.map Record.row)⟩]⟩,⟨[.row 114 [.d (cI v2c.source),.d (cI v2c.number)]],[⟨49,12,([]:List Record).length,none⟩,⟨49,12,v1outl1.length,none⟩,⟨49,12,y2tl1.length,some (y2tl1.map Record.row)⟩]⟩,⟨[.row 114 [.d (cI v2c.source),.d (cI v2c.number)]],[⟨49,12,([]:List Record).length,none⟩,⟨49,12,v1outl1.length,none⟩,⟨49,12,y2tl1.length,some (y2tl1.map Record.row)⟩]⟩] hMix (by kernel_rfl) (by decide) (by decide) (by kernel_rfl) rfl ?_
 show XOps _ _ _ _ _ _ _ _ _ _ (_ :: _) _ _
 refine .g (x:=.vc 2 y2tl1.length) 0 1 ⟨OpQ.g (q_move rfl),OpQ.g (q_move rfl),trivial⟩ rfl (by kernel_rfl) rfl ?_
 refine .g (x:=.d (cI y1.1)) 0 1 ⟨OpQ.g (q_move rfl),OpQ.g (q_move rfl),trivial⟩ rfl (by kernel_rfl) rfl ?_
 refine .g (x:=.d (cI y1.2)) 0 1 ⟨OpQ.g (q_move rfl),OpQ.g (q_move rfl),trivial⟩ rfl (by kernel_rfl) rfl ?_
 refine .g (x:=.vw 2 y2tl1.length y1.1.toNat ((y2tl1.take y1.2.toNat).drop y1.1.toNat).length) 0 1 ⟨OpQ.g (q_slVW (l:=y2tl1) (row:=Record.row) (i:=y1.1) (j:=y1.2) underlying23 hi49 hs49 rfl rfl rfl rfl hk1),OpQ.g (q_slVW (l:=y2tl1) (row:=Record.row) (i:=y1.1) (j:=y1.2) underlying23 hi49 hs49 rfl rfl rfl rfl hk1),trivial⟩ rfl (by kernel_rfl) rfl ?_
 refine .g (x:=.vc 2 y2tl1.length) 0 0 ⟨OpQ.g (q_move rfl),trivial⟩ rfl (by kernel_rfl) rfl ?_
 refine .g (x:=.d (cI y1.1)) 0 0 ⟨OpQ.g (q_move rfl),trivial⟩ rfl (by kernel_rfl) rfl ?_
 refine .g (x:=.d (cI y1.2)) 0 0 ⟨OpQ.g (q_move rfl),trivial⟩ rfl (by kernel_rfl) rfl ?_
 refine .g (x:=.vw 2 y2tl1.length y1.1.toNat ((y2tl1.take y1.2.toNat).drop y1.1.toNat).length) 0 0 ⟨OpQ.g (q_slVW (l:=y2tl1) (row:=Record.row) (i:=y1.1) (j:=y1.2) underlying23 hi49 hs49 rfl rfl rfl rfl hk2),trivial⟩ rfl (by kernel_rfl) rfl ?_
 refine .c 0 (OpC.callF (en 36 rfl) [] [2] (x:=.d (slOf 1 rI y2)) (st':=⟨[.row 114 [.d (cI v2c.source),.d (cI v2c.number)]],[⟨49,12,([]:List Record).length,none⟩,⟨49,12,v1outl1.length,none⟩,⟨49,12,y2tl1.length,some (y2tl1.map Record.row)⟩]⟩) rfl (c_g_correlate_candidates (view_ok (by have h:=@H; omega)) (hy2)) ⟨.rfl' _,.rfl' _,trivial⟩ rfl rfl rfl rfl rfl rfl) rfl rfl rfl rfl ?_
 refine .c 1 (OpC.callF (en 37 rfl) [] [2] (x:=.d (.tup [slOf 12 Record.row y3.1,slOf 12 Record.row y3.2])) (st':=⟨[.row 114 [.d (cI v2c.source),.d (cI v2c.number)]],[⟨49,12,([]:List Record).length,none⟩,⟨49,12,v1outl1.length,none⟩,⟨49,12,y2tl1.length,some (y2tl1.map Record.row)⟩]⟩) rfl (c_g_correlate_pick (view_ok (by have h:=@H; omega)) (hy3)) ⟨.rfl' _,.rfl' _,trivial⟩ rfl rfl rfl rfl rfl rfl) rfl rfl rfl rfl ?_
 refine .g (x:=.d (.tup [slOf 12 Record.row y3.1,slOf 12 Record.row y3.2])) 2 2 ⟨OpQ.g (q_move rfl),trivial⟩ rfl (by kernel_rfl) rfl ?_
 refine .g (x:=.d (slOf 12 Record.row y3.1)) 2 2 ⟨OpQ.g (q_extract rfl rfl),trivial⟩ rfl (by kernel_rfl) rfl ?_
 refine .g (x:=.d (slOf 12 Record.row y3.2)) 2 2 ⟨OpQ.g (q_extract rfl rfl),trivial⟩ rfl (by kernel_rfl) rfl ?_
 refine .g (x:=.d (slOf 12 Record.row y3.1)) 2 2 ⟨OpQ.g (q_assign rfl),trivial⟩ rfl (by kernel_rfl) rfl ?_
 refine .nil rfl ?_
 show AOps _ _ _ _ _ _ (_ :: _) _ _ _
 obtain ⟨y4,hy4,H⟩:=bind_some' H
 refine .A 19 [.d (.tup [.agg (Record.row y4.1),cB y4.2]),.r 1] rfl (g_call (en 38 rfl) rfl rfl (c_f_correlate_Complete (hy4))) ?_
 refine .ite H rfl (fun H=>?_) (fun H=>?_)
 ·refine .A 7 [] rfl trivial ?_
  refine .R func76 results76 rfl ?_
  cases H
  cases HK1
  exact ⟨[],[0,1,2],rfl,rfl,rfl,rfl,rfl,rfl,rfl,rfl,.tupE ⟨.rfl' _,.rfl' _,trivial⟩⟩
 ·obtain ⟨y5,hy5,H⟩:=bind_some' H
  refine .B 7 [] rfl trivial ?_
  refine .callF (en 39 rfl) rfl [] [2] (x:=.vc 3 y5.length) (st':=⟨[.row 114 [.d (cI v2c.source),.d (cI v2c.number)],.row 49 [.d (cI y4.1.source),.d (cI y4.1.serial),.d (cI y4.1.kind),.d (cS y4.1.a),.d (cS y4.1.b),.d (cI y4.1.start),.d (cI y4.1.units),.d (cI y4.1.call),.d (cI y4.1.part),.d (cB y4.1.last),.d (cI y4.1.trunk),.d (cB y4.1.inbound)]],[⟨49,12,([]:List Record).length,none⟩,⟨49,12,v1outl1.length,none⟩,⟨49,12,([]:List Record).length,none⟩,⟨49,12,y5.length,some (y5.map Record.row)⟩]⟩) rfl (c_x_ReplaceRecord (hy5)) ⟨.rfl' _,.rfl' _,.rfl' _,.rfl' _,trivial⟩ rfl rfl rfl rfl rfl rfl ?_
  obtain ⟨hk3,H⟩:=ck_some H
  refine .A 10 [.d (slOf 12 Record.row ([y4.1]:List Record)),.a 1 49 12 Record.row (v1outl1++([y4.1]:List Record))] rfl ⟨s23.a rfl rfl rfl rfl hk3,g_buildSlice1 underlying23 hi49 hs49 hz49 rfl rfl rfl rfl rfl⟩ ?_
  cases H
  refine .reloc [0] [0,1,3] (env':=[(0,.vc 2 y5.length),(1,.tsl 12 ((v1outl1++([y4.1]:List Record)).map Record.row) 1),(5,.ref 0 0)]) (st':=⟨[.row 114 [.d (cI v2c.source),.d (cI v2c.number)]],[⟨49,12,([]:List Record).length,none⟩,⟨49,12,(v1outl1++([y4.1]:List Record)).length,none⟩,⟨49,12,y5.length,some (y5.map Record.row)⟩]⟩) hS rfl rfl rfl rfl rfl rfl rfl rfl (.cons rfl (.rfl' _) (.cons rfl (.rfl' _) (.cons rfl (.rfl' _) (.nil)))) ?_
  exact .z (ih1 (n1,(y5,v1outl1++([y4.1]:List Record))) HK1 hm1) rfl rfl
theorem c_f_correlate_Join {v0open:List Record} {v1list:List Record} {r:(List Record)×(List Record)} (H:f_correlate_Join v0open v1list=some r):ACall prog 42 [slOf 12 Record.row v0open,slOf 12 Record.row v1list] (·=.tup [slOf 12 Record.row r.1,slOf 12 Record.row r.2]):=by
 obtain ⟨i49,hi49,hz49,hs49,hb49⟩:=in_49
 refine ACall.enter' func42 rfl ntmps42 rfl fun S hS=>?_
 unfold f_correlate_Join at H
 obtain ⟨y1,hy1,H⟩:=bind_some' H
 refine .B 12 [] rfl trivial ?_
 refine .callF (en 13 rfl) rfl [] [] (x:=.vc 0 y1.length) (st':=⟨[],[⟨49,12,y1.length,some (y1.map Record.row)⟩]⟩) rfl (c_x_CloneRecordV (hy1)) ⟨.rfl' _,trivial⟩ rfl rfl rfl rfl rfl rfl ?_
 refine .A 10 [.i (v1list.length:Int)] rfl (s23.n rfl rfl) ?_
 refine .tok (i:=6) (e:=49) (sz:=12) rfl ?_
 obtain ⟨n1,H⟩:=loop_some H
 refine .loop (ι:=Nat×(List Record×List Record×Int)) (fun ⟨_,y0tl1,v6outl1,v15l1⟩=>[(6,.tsl 12 (v6outl1.map Record.row) 1),(7,.vc 0 y0tl1.length),(13,.d (slOf 12 Record.row v1list)),(14,.d (cI (v1list.length:Int))),(15,.d (cI v15l1))]) (fun ⟨_,y0tl1,v6outl1,v15l1⟩=>⟨[],[⟨49,12,y0tl1.length,some (y0tl1.map Record.row)⟩,⟨49,12,v6outl1.length,none⟩]⟩) (fun p=>iter (fun s=>f_correlate_Join_l1 v1list s.1 s.2.1 s.2.2) p.1 p.2=some r) (·.1) (n1,(y1,([]:List Record),0)) H (.cons rfl (.rfl' _) (.cons rfl (.rfl' _) (.cons rfl (.rfl' _) (.cons rfl (.rfl' _) (.cons rfl (.rfl' _) (.nil)))))) rfl ?_
 rintro ⟨m1,y0tl1,v6outl1,v15l1⟩ HI ih1
 obtain ⟨n1,q1,hm1,H,HK1⟩:=iter_succ HI
 clear HI
 replace H:f_correlate_Join_l1 v1list y0tl1 v6outl1 v15l1=some q1:=H
 unfold f_correlate_Join_l1 at H
 refine .A 5 [] rfl trivial ?_
 refine .ite H rfl (fun H=>?_) (fun H=>?_)
 ·obtain ⟨hk1,H⟩:=ck_some H
  refine .A 17 [.d (.ro (Record.row (nth v1list v15l1.toNat))),.r 0] rfl (s23.ix rfl rfl rfl hk1) ?_
  refine .ite H rfl (fun H=>?_) (fun H=>?_)
  ·obtain ⟨hk2,H⟩:=ck_some H
   obtain ⟨hk3,H⟩:=ck_some H
   refine .A 13 [.d (slOf 12 Record.row ([nth v1list v15l1.toNat]:List Record)),.a 1 49 12 Record.row (v6outl1++([nth v1list v15l1.toNat]:List Record)),.i (v15l1+1)] rfl ⟨g_addI rfl rfl hk3,s23.a rfl rfl rfl rfl hk2,g_buildSlice1 underlying23 hi49 hs49 hz49 rfl rfl rfl rfl rfl⟩ ?_
   cases H
   exact .t 0 2 (ih1 (n1,(y0tl1,v6outl1++([nth v1list v15l1.toNat]:List Record),v15l1+1)) HK1 hm1) rfl rfl rfl rfl rfl hS rfl
  ·refine .A 6 [] rfl trivial ?_
   refine .blockJoin2 (ι:=Int) (fun v10atj1=>[(6,.tsl 12 (v6outl1.map Record.row) 1),(7,.vc 0 y0tl1.length),(9,.ref 0 0),(10,.d (cI v10atj1)),(13,.d (slOf 12 Record.row v1list)),(14,.d (cI (v1list.length:Int))),(15,.d (cI v15l1))]) (fun v10atj1=>⟨[.row 49 [.d (cI ((nth v1list v15l1.toNat).source)),.d (cI ((nth v1list v15l1.toNat).serial)),.d (cI ((nth v1list v15l1.toNat).kind)),.d (cS ((nth v1list v15l1.toNat).a)),.d (cS ((nth v1list v15l1.toNat).b)),.d (cI ((nth v1list v15l1.toNat).start)),.d (cI ((nth v1list v15l1.toNat).units)),.d (cI ((nth v1list v15l1.toNat).call)),.d (cI ((nth v1list v15l1.toNat).part)),.d (cB ((nth v1list v15l1.toNat).last)),.d (cI ((nth v1list v15l1.toNat).trunk)),.d (cB ((nth v1list v15l1.toNat).inbound))]],[⟨49,12,y0tl1.length,some (y0tl1.map Record.row)⟩,⟨49,12,v6outl1.length,none⟩]⟩) (fun s=>f_correlate_Join_j1 v1list y0tl1 v6outl1 v15l1 s=some q1) ?_ ?_
   ·rintro v10atj1 H
    replace H:f_correlate_Join_j1 v1list y0tl1 v6outl1 v15l1 v10atj1=some q1:=H
    unfold f_correlate_Join_j1 at H
    obtain ⟨y2,hy2,H⟩:=bind_some' H
    refine .B 6 [.n (.vc 2 (([nth v1list v15l1.toNat]:List Record).length)) ⟨49,12,(([nth v1list v15l1.toNat]:List Record).length),some (([nth v1list v15l1.toNat]:List Record).map Record.row)⟩] rfl (.e (v_buildSliceV (n:=1) (l0:=([nth v1list v15l1.toNat]:List Record)) (row:=Record.row) underlying23 hi49 hs49 hz49 rfl rfl rfl rfl rfl) rfl) ?_
    refine .callF (en 40 rfl) rfl [] [0,2] (x:=.vc 3 y2.length) (st':=⟨[.row 49 [.d (cI ((nth v1list v15l1.toNat).source)),.d (cI ((nth v1list v15l1.toNat).serial)),.d (cI ((nth v1list v15l1.toNat).kind)),.d (cS ((nth v1list v15l1.toNat).a)),.d (cS ((nth v1list v15l1.toNat).b)),.d (cI ((nth v1list v15l1.toNat).start)),.d (cI ((nth v1list v15l1.toNat).units)),.d (cI ((nth v1list v15l1.toNat).call)),.d (cI ((nth v1list v15l1.toNat).part)),.d (cB ((nth v1list v15l1.toNat).last)),.d (cI ((nth v1list v15l1.toNat).trunk)),.d (cB ((nth v1list v15l1.toNat).inbound))]],[⟨49,12,([]:List Record).length,none⟩,⟨49,12,v6outl1.length,none⟩,⟨49,12,(([nth v1list v15l1.toNat]:List Record).length),some (([nth v1list v15l1.toNat]:List Record).map Record.row)⟩,⟨49,12,y2.length,some (y2.map Record.row)⟩]⟩) rfl (c_x_InsertRecord (hy2)) ⟨.rfl' _,.rfl' _,.rfl' _,trivial⟩ rfl rfl rfl rfl rfl rfl ?_
    obtain ⟨y3,hy3,H⟩:=bind_some' H
    obtain ⟨y4,hy4,H⟩:=bind_some' H
    refine .B 7 [.d (.agg (CorrelateCall.row y3))] rfl (g_call (en 28 rfl) rfl rfl (c_f_correlate_callOf (hy3))) ?_
    refine .callF (en 41 rfl) rfl [] [3,1] (x:=.tup [.vc 4 y4.1.length,.tsl 12 (y4.2.map Record.row) 1]) (st':=⟨[.row 49 [.d (cI ((nth v1list v15l1.toNat).source)),.d (cI ((nth v1list v15l1.toNat).serial)),.d (cI ((nth v1list v15l1.toNat).kind)),.d (cS ((nth v1list v15l1.toNat).a)),.d (cS ((nth v1list v15l1.toNat).b)),.d (cI ((nth v1list v15l1.toNat).start)),.d (cI ((nth v1list v15l1.toNat).units)),.d (cI ((nth v1list v15l1.toNat).call)),.d (cI ((nth v1list v15l1.toNat).part)),.d (cB ((nth v1list v15l1.toNat).last)),.d (cI ((nth v1list v15l1.toNat).trunk)),.d (cB ((nth v1list v15l1.toNat).inbound))]],[⟨49,12,([]:List Record).length,none⟩,⟨49,12,y4.2.length,none⟩,⟨49,12,(([nth v1list v15l1.toNat]:List Record).length),some (([nth v1list v15l1.toNat]:List Record).map Record.row)⟩,⟨49,12,([]:List Record).length,none⟩,⟨49,12,y4.1.length,some (y4.1.map Record.row)⟩]⟩) rfl (c_g_correlate_join_v1 (hy4)) ⟨.rfl' _,.rfl' _,.rfl' _,trivial⟩ rfl rfl rfl rfl rfl rfl ?_
    obtain ⟨hk4,H⟩:=ck_some H
    refine .A 11 [.i (v15l1+1)] rfl (g_addI rfl rfl hk4) ?_
    cases H
    refine .reloc [] [4,1] (env':=[(6,.tsl 12 (y4.2.map Record.row) 1),(7,.vc 0 y4.1.length),(13,.d (slOf 12 Record.row v1list)),(14,.d (cI (v1list.length:Int))),(15,.d (cI (v15l1+1)))]) (st':=⟨[],[⟨49,12,y4.1.length,some (y4.1.map Record.row)⟩,⟨49,12,y4.2.length,none⟩]⟩) hS rfl rfl rfl rfl rfl rfl rfl rfl (.cons rfl (.rfl' _) (.cons rfl (.rfl' _) (.cons rfl (.rfl' _) (.cons rfl (.rfl' _) (.cons rfl (.rfl' _) (.nil)))))) ?_
    exact .z (ih1 (n1,(y4.1,y4.2,v15l1+1)) HK1 hm1) rfl rfl
   ·intro hj1 hj1x
    obtain ⟨n2,H⟩:=loop_some H
    refine .loop (ι:=Nat×(Int)) (fun ⟨_,v10atl2⟩=>[(6,.tsl 12 (v6outl1.map Record.row) 1),(7,.vc 0 y0tl1.length),(9,.ref 0 0),(10,.d (cI v10atl2)),(13,.d (slOf 12 Record.row v1list)),(14,.d (cI (v1list.length:Int))),(15,.d (cI v15l1))]) (fun ⟨_,v10atl2⟩=>⟨[.row 49 [.d (cI ((nth v1list v15l1.toNat).source)),.d (cI ((nth v1list v15l1.toNat).serial)),.d (cI ((nth v1list v15l1.toNat).kind)),.d (cS ((nth v1list v15l1.toNat).a)),.d (cS ((nth v1list v15l1.toNat).b)),.d (cI ((nth v1list v15l1.toNat).start)),.d (cI ((nth v1list v15l1.toNat).units)),.d (cI ((nth v1list v15l1.toNat).call)),.d (cI ((nth v1list v15l1.toNat).part)),.d (cB ((nth v1list v15l1.toNat).last)),.d (cI ((nth v1list v15l1.toNat).trunk)),.d (cB ((nth v1list v15l1.toNat).inbound))]],[⟨49,12,y0tl1.length,some (y0tl1.map Record.row)⟩,⟨49,12,v6outl1.length,none⟩]⟩) (fun p=>iter (fun s=>f_correlate_Join_l2 v1list y0tl1 v6outl1 v15l1 s) p.1 p.2=some q1) (·.1) (n2,0) H (.cons rfl (.rfl' _) (.cons rfl (.rfl' _) (.cons rfl (.rfl' _) (.cons rfl (.rfl' _) (.cons rfl (.rfl' _) (.cons rfl (.rfl' _) (.cons rfl (.rfl' _) (.nil)))))))) rfl ?_
    rintro ⟨m2,v10atl2⟩ HI ih2
    obtain ⟨n2,q2,hm2,H,HK2⟩:=iter_succ HI
    clear HI
    replace H:f_correlate_Join_l2 v1list y0tl1 v6outl1 v15l1 v10atl2=some q2:=H
    unfold f_correlate_Join_l2 at H
    obtain ⟨hk5,H⟩:=ck_some H
    obtain ⟨hk6,H⟩:=ck_some H
    obtain ⟨y5,hy5,H⟩:=bind_some' H
    refine .A 18 [.p 13,.i (y0tl1.length:Int),.g (.vp 0 y0tl1.length v10atl2.toNat 0),.f 7 (.d (.agg (Record.row (nth y0tl1 v10atl2.toNat)))),.i y5] rfl ⟨rfl,rfl,fun hg=>g_call (en 42 rfl) rfl rfl (c_f_correlate_before (gcall_some hy5 hg)),rfl,rfl,fun hg=>OpQ.g (q_loadVpA (l:=y0tl1) (row:=Record.row) (cs:=(Record.row (nth y0tl1 v10atl2.toNat))) one_49 sz_49 rfl rfl (hk6 hg) (Nat.le_of_ble_eq_true rfl) rfl),rfl,fun hg=>OpQ.g (q_idxV (l:=y0tl1) (row:=Record.row) (i:=v10atl2) underlying23 hi49 hs49 rfl rfl rfl (hk5 hg)),rfl,rfl,OpQ.g (q_lenV (l:=y0tl1) (row:=Record.row) underlying23 rfl rfl),(show drawB _ _=true by kernel_rfl)⟩ ?_
    refine .ite H rfl (fun H=>?_) (fun H=>?_)
    ·obtain ⟨hk7,H⟩:=ck_some H
     refine .A 8 [.i (v10atl2+1)] rfl (g_addI rfl rfl hk7) ?_
     cases H
     exact .z (ih2 (n2,(v10atl2+1)) HK2 hm2) rfl rfl
    ·refine .A 1 [] rfl trivial ?_
     obtain ⟨q0,H9,hq0⟩:=map_some' H; clear H; cases hq0
     cases HK2
     have H:=H9
     exact .z (hj1x v10atl2 H) rfl rfl
 ·refine .A 8 [] rfl trivial ?_
  refine .freezeL (l:=y0tl1) (row:=Record.row) (i:=5) rfl rfl ?_
  refine .R func42 results42 rfl ?_
  cases H
  cases HK1
  exact .m rfl (.tupL ⟨.tsl _ _ _,.tsl _ _ _,trivial⟩)
theorem c_g_intake_timely {v0records:List Record} {v1w:Window} {r:(List Int)×(List Reject)} (H:g_intake_timely v0records v1w=some r):ACallS prog 36 [.d (slOf 12 Record.row v0records),.d (.agg (Window.row v1w))] ⟨[],[]⟩ (QE (.tup [.d (slOf 1 rI r.1),.vc 0 r.2.length]) ⟨[],[⟨47,4,r.2.length,some (r.2.map Reject.row)⟩]⟩):=by
 obtain ⟨i3,hi3,hz3,hs3,hb3⟩:=in_3
 obtain ⟨i47,hi47,hz47,hs47,hb47⟩:=in_47
 refine ACallS.keep ?_
 refine ACallS.enter func36 rfl ntmps36 rfl fun S hS=>?_
 unfold g_intake_timely at H
 refine .A 22 [.r 0,.i (v0records.length:Int)] rfl (s23.n rfl rfl) ?_
 refine .tok (i:=6) (e:=3) (sz:=1) rfl ?_
 refine .tokV (i:=7) (e:=47) (sz:=4) rfl ?_
 obtain ⟨n1,H⟩:=loop_some H
 refine .normV (l:=([]:List Reject)) (row:=Reject.row) (tk:=1) (fun z=>[(3,.ref 0 0),(6,.tsl 1 (([]:List Int).map rI) 0),(7,.vc 1 z),(11,.d (slOf 12 Record.row v0records)),(12,.d (cI (v0records.length:Int))),(13,.d (cI 0))]) (fun z=>⟨[.row 36 [.d (cI v1w.earliest),.d (cI v1w.latest)]],[⟨3,1,([]:List Int).length,none⟩,⟨47,4,z,some (([]:List Reject).map Reject.row)⟩]⟩) rfl (.cons rfl (.rfl' _) (.cons rfl (.rfl' _) (.cons rfl (.rfl' _) (.cons rfl (.rfl' _) (.cons rfl (.rfl' _) (.cons rfl (.rfl' _) (.nil))))))) rfl ?_
 refine .loop (ι:=Nat×(List Reject×List Int×Int)) (fun ⟨_,y1tl1,v6atl1,v13l1⟩=>[(3,.ref 0 0),(6,.tsl 1 (v6atl1.map rI) 0),(7,.vc 1 y1tl1.length),(11,.d (slOf 12 Record.row v0records)),(12,.d (cI (v0records.length:Int))),(13,.d (cI v13l1))]) (fun ⟨_,y1tl1,v6atl1,v13l1⟩=>⟨[.row 36 [.d (cI v1w.earliest),.d (cI v1w.latest)]],[⟨3,1,v6atl1.length,none⟩,⟨47,4,y1tl1.length,some (y1tl1.map Reject.row)⟩]⟩) (fun p=>iter (fun s=>g_intake_timely_l1 v0records v1w s.1 s.2.1 s.2.2) p.1 p.2=some r) (·.1) (n1,(([]:List Reject),([]:List Int),0)) H (.cons rfl (.rfl' _) (.cons rfl (.rfl' _) (.cons rfl (.rfl' _) (.cons rfl (.rfl' _) (.cons rfl (.rfl' _) (.cons rfl (.rfl' _) (.nil))))))) rfl ?_
 rintro ⟨m1,y1tl1,v6atl1,v13l1⟩ HI ih1
 obtain ⟨n1,q1,hm1,H,HK1⟩:=iter_succ HI
 clear HI
 replace H:g_intake_timely_l1 v0records v1w y1tl1 v6atl1 v13l1=some q1:=H
 unfold g_intake_timely_l1 at H
 refine .A 5 [] rfl trivial ?_
 refine .ite H rfl (fun H=>?_) (fun H=>?_)
 ·obtain ⟨hk1,H⟩:=ck_some H
  obtain ⟨y1,hy1,H⟩:=bind_some' H
  refine .A 25 [.d (.ro (Record.row (nth v0records v13l1.toNat))),.r 1,.i y1] rfl ⟨g_call (en 11 rfl) rfl rfl (c_f_validate_Window (hy1)),s23.ix rfl rfl rfl hk1⟩ ?_
  refine .ite H rfl (fun H=>?_) (fun H=>?_)
  ·obtain ⟨hk2,H⟩:=ck_some H
   obtain ⟨hk3,H⟩:=ck_some H
   refine .A 19 [.d (.agg (Reject.row (⟨(nth v0records v13l1.toNat).source,(nth v0records v13l1.toNat).serial,v13l1,y1⟩:Reject))),.d (slOf 4 Reject.row ([(⟨(nth v0records v13l1.toNat).source,(nth v0records v13l1.toNat).serial,v13l1,y1⟩:Reject)]:List Reject)),.t (.vc 1 ((y1tl1++([(⟨(nth v0records v13l1.toNat).source,(nth v0records v13l1.toNat).serial,v13l1,y1⟩:Reject)]:List Reject)).length)) 1 ⟨47,4,((y1tl1++([(⟨(nth v0records v13l1.toNat).source,(nth v0records v13l1.toNat).serial,v13l1,y1⟩:Reject)]:List Reject)).length),some ((y1tl1++([(⟨(nth v0records v13l1.toNat).source,(nth v0records v13l1.toNat).serial,v13l1,y1⟩:Reject)]:List Reject)).map Reject.row)⟩,.i (v13l1+1)] rfl ⟨g_addI rfl rfl hk3,.e (v_appendV (l:=y1tl1) (l':=([(⟨(nth v0records v13l1.toNat).source,(nth v0records v13l1.toNat).serial,v13l1,y1⟩:Reject)]:List Reject)) (row:=Reject.row) underlying38 hi47 hz47 hs47 rfl (by rw [hb47]; decide) rfl rfl rfl rfl hk2) rfl,g_buildSlice1 underlying38 hi47 hs47 hz47 rfl rfl rfl rfl rfl,OpQ.g (q_buildP pl_47 hi47 hz47 rfl rfl)⟩ ?_
   cases H
   exact .t 1 2 (ih1 (n1,(y1tl1++([(⟨(nth v0records v13l1.toNat).source,(nth v0records v13l1.toNat).serial,v13l1,y1⟩:Reject)]:List Reject),v6atl1,v13l1+1)) HK1 hm1) rfl rfl rfl rfl rfl hS rfl
  ·obtain ⟨hk4,H⟩:=ck_some H
   obtain ⟨hk5,H⟩:=ck_some H
   refine .A 13 [.d (slOf 1 rI ([v13l1]:List Int)),.a 0 3 1 rI (v6atl1++([v13l1]:List Int)),.i (v13l1+1)] rfl ⟨g_addI rfl rfl hk5,s69.a rfl rfl rfl rfl hk4,g_buildSlice1 underlying69 hi3 hs3 hz3 rfl rfl rfl rfl rfl⟩ ?_
   cases H
   exact .t 1 2 (ih1 (n1,(y1tl1,v6atl1++([v13l1]:List Int),v13l1+1)) HK1 hm1) rfl rfl rfl rfl rfl hS rfl
 ·refine .A 8 [] rfl trivial ?_
  refine .R func36 results36 rfl ?_
  cases H
  cases HK1
  exact ⟨[],[1],rfl,rfl,rfl,rfl,rfl,rfl,rfl,rfl,.tupE ⟨.tsl _ _ _,.rfl' _,trivial⟩⟩
theorem c_g_intake_copied {v0in:Intake} {r:(List Range)×(List Record)×(List Head)} (H:g_intake_copied v0in=some r):ACallS prog 37 [.d (.agg (Intake.row v0in))] ⟨[],[]⟩ (QE (.agg [.d (slOf 3 Range.row r.1),.d (slOf 12 Record.row r.2.1),.tsl 4 (r.2.2.map Head.row) 0]) ⟨[],[⟨30,4,r.2.2.length,none⟩]⟩):=by
 obtain ⟨i26,hi26,hz26,hs26,hb26⟩:=in_26
 refine ACallS.keep ?_
 refine ACallS.enter func37 rfl ntmps37 rfl fun S hS=>?_
 unfold g_intake_copied at H
 obtain ⟨y1,hy1,H⟩:=bind_some' H
 obtain ⟨y2,hy2,H⟩:=bind_some' H
 obtain ⟨y3,hy3,H⟩:=bind_some' H
 refine .B 16 [.r 0,.r 1,.p 8,.d (slOf 3 Range.row y1),.d (slOf 12 Record.row y2)] rfl ⟨g_call (en 13 rfl) rfl rfl (c_x_CloneRecord (hy2)),g_call (en 14 rfl) rfl rfl (c_x_CloneRange (hy1)),(show drawB _ _=true by kernel_rfl)⟩ ?_
 refine .callF (en 12 rfl) rfl [] [] (x:=.vc 0 y3.length) (st':=⟨[.row 26 [.d (slOf 3 Range.row v0in.seen),.d (slOf 12 Record.row v0in.open_),.d (slOf 4 Head.row v0in.heads)],.row 26 [.d (nilD),.d (nilD),.d (nilD)]],[⟨30,4,y3.length,some (y3.map Head.row)⟩]⟩) rfl (c_x_CloneHeadV (hy3)) ⟨.rfl' _,trivial⟩ rfl rfl rfl rfl rfl rfl ?_
 refine .freezeL (l:=y3) (row:=Head.row) (i:=11) rfl rfl ?_
 refine .A 3 [.g (.agg [.d (slOf 3 Range.row y1),.d (slOf 12 Record.row y2),.tsl 4 (y3.map Head.row) 0])] rfl (OpQ.g (q_buildE pl_26 hi26 hz26 rfl rfl)) ?_
 refine .retN [.cell 2 26] [.agg [.d (slOf 3 Range.row y1),.d (slOf 12 Record.row y2),.tsl 4 (y3.map Head.row) 0]] func37 results37 ⟨⟨⟨_,_,rfl⟩,q_loadOE one_26 sz_26 rfl rfl (Nat.le_of_ble_eq_true rfl) rfl⟩,trivial⟩ ?_
 cases H
 exact ⟨[],[0],rfl,rfl,rfl,rfl,rfl,rfl,rfl,rfl,.aggE ⟨.rfl' _,.rfl' _,.rfl' _,trivial⟩⟩
theorem c_f_intake_Accept {v0:Intake} {v1:Batch} {v2:Window} {r:Intake×(List Record)×(List Reject)×Int} (H:f_intake_Accept v0 v1 v2=some r):ACall prog 16 [.agg (Intake.row v0),.agg (Batch.row v1),.agg (Window.row v2)] (·=.tup [.agg (Intake.row r.1),slOf 12 Record.row r.2.1,slOf 4 Reject.row r.2.2.1,cI r.2.2.2]):=by
 obtain ⟨i26,hi26,hz26,hs26,hb26⟩:=in_26
 obtain ⟨i30,hi30,hz30,hs30,hb30⟩:=in_30
 obtain ⟨i47,hi47,hz47,hs47,hb47⟩:=in_47
 obtain ⟨i49,hi49,hz49,hs49,hb49⟩:=in_49
 refine ACall.enter' func16 rfl ntmps16 rfl fun S hS=>?_
 unfold f_intake_Accept at H
 obtain ⟨y1,hy1,H⟩:=bind_some' H
 refine .A 22 [.r 0,.r 1,.r 2,.r 3,.i y1] rfl (g_call (en 43 rfl) rfl rfl (c_f_batch_Check (hy1))) ?_
 refine .ite H rfl (fun H=>?_) (fun H=>?_)
 ·refine .A 9 [.d (.agg (Intake.row (⟨([]:List Range),([]:List Record),([]:List Head)⟩:Intake)))] rfl (OpQ.g (OpQ.le (q_buildP pl_26 hi26 hz26 rfl rfl) (EVle.d (.agg ⟨.nil 3,.nil 12,.nil 4,trivial⟩)))) ?_
  refine .R func16 results16 rfl ?_
  cases H
  exact .m rfl (.tupL ⟨.rfl' _,.nil 12,.nil 4,.rfl' _,trivial⟩)
 ·obtain ⟨y2,hy2,H⟩:=bind_some' H
  refine .A 13 [.p 7,.i y2] rfl ⟨g_call (en 44 rfl) rfl rfl (c_f_intake_Next (hy2)),(show drawB _ _=true by kernel_rfl)⟩ ?_
  refine .ite H rfl (fun H=>?_) (fun H=>?_)
  ·refine .A 8 [.d (.agg (Intake.row (⟨([]:List Range),([]:List Record),([]:List Head)⟩:Intake)))] rfl (OpQ.g (OpQ.le (q_buildP pl_26 hi26 hz26 rfl rfl) (EVle.d (.agg ⟨.nil 3,.nil 12,.nil 4,trivial⟩)))) ?_
   refine .R func16 results16 rfl ?_
   cases H
   exact .m rfl (.tupL ⟨.rfl' _,.nil 12,.nil 4,.rfl' _,trivial⟩)
  ·obtain ⟨y3,hy3,H⟩:=bind_some' H
   refine .B 6 [] rfl trivial ?_
   refine .callF (en 45 rfl) rfl [] [] (x:=.tup [.d (slOf 1 rI y3.1),.vc 0 y3.2.length]) (st':=⟨[.row 26 [.d (slOf 3 Range.row v0.seen),.d (slOf 12 Record.row v0.open_),.d (slOf 4 Head.row v0.heads)],.row 34 [.d (cI v1.source),.d (cI v1.number),.d (cI v1.format),.d (slOf 12 Record.row v1.records)],.row 36 [.d (cI v2.earliest),.d (cI v2.latest)],.row 26 [.d (nilD),.d (nilD),.d (nilD)]],[⟨47,4,y3.2.length,some (y3.2.map Reject.row)⟩]⟩) rfl (c_g_intake_timely (hy3)) ⟨.rfl' _,.rfl' _,trivial⟩ rfl rfl rfl rfl rfl rfl ?_
   refine .A 17 [.i (y3.1.length:Int)] rfl (s69.n rfl rfl) ?_
   refine .tok (i:=13) (e:=49) (sz:=12) rfl ?_
   refine .blockJoin2 (ι:=List Record) (fun v13j1=>[(3,.ref 0 0),(4,.ref 1 0),(6,.ref 3 0),(11,.d (slOf 1 rI y3.1)),(12,.vc 0 y3.2.length),(13,.tsl 12 (v13j1.map Record.row) 1)]) (fun v13j1=>⟨[.row 26 [.d (slOf 3 Range.row v0.seen),.d (slOf 12 Record.row v0.open_),.d (slOf 4 Head.row v0.heads)],.row 34 [.d (cI v1.source),.d (cI v1.number),.d (cI v1.format),.d (slOf 12 Record.row v1.records)],.row 36 [.d (cI v2.earliest),.d (cI v2.latest)],.row 26 [.d (nilD),.d (nilD),.d (nilD)]],[⟨47,4,y3.2.length,some (y3.2.map Reject.row)⟩,⟨49,12,v13j1.length,none⟩]⟩) (fun s=>f_intake_Accept_j1 v0 v1 y3 s=some r) ?_ ?_
   ·rintro v13j1 H
    replace H:f_intake_Accept_j1 v0 v1 y3 v13j1=some r:=H
    unfold f_intake_Accept_j1 at H
    obtain ⟨y4,hy4,H⟩:=bind_some' H
    refine .B 3 [] rfl trivial ?_
    refine .callF (en 46 rfl) rfl [] [] (x:=.agg [.d (slOf 3 Range.row y4.1),.d (slOf 12 Record.row y4.2.1),.tsl 4 (y4.2.2.map Head.row) 2]) (st':=⟨[.row 26 [.d (slOf 3 Range.row v0.seen),.d (slOf 12 Record.row v0.open_),.d (slOf 4 Head.row v0.heads)],.row 34 [.d (cI v1.source),.d (cI v1.number),.d (cI v1.format),.d (slOf 12 Record.row v1.records)],.row 36 [.d (cI v2.earliest),.d (cI v2.latest)],.row 26 [.d (nilD),.d (nilD),.d (nilD)]],[⟨47,4,y3.2.length,some (y3.2.map Reject.row)⟩,⟨49,12,v13j1.length,none⟩,⟨30,4,y4.2.2.length,none⟩]⟩) rfl (c_g_intake_copied (hy4)) ⟨.rfl' _,trivial⟩ rfl rfl rfl rfl rfl rfl ?_
    obtain ⟨y5,hy5,H⟩:=bind_some' H
    refine .A 24 [.r 4,.d (.tup [slOf 3 Range.row y5.1,slOf 12 Record.row y5.2.1,slOf 4 Reject.row y5.2.2]),.i (y5.2.2.length:Int)] rfl ⟨s38.n rfl rfl,g_call (en 47 rfl) rfl rfl (c_f_dedup_Filter (hy5))⟩ ?_
    refine .blockJoin2 (ι:=List Reject) (fun y0tj2=>[(4,.ref 1 0),(6,.ref 3 0),(12,.vc 0 y0tj2.length),(16,.ref 4 0),(17,.d (slOf 3 Range.row y5.1)),(18,.d (slOf 12 Record.row y5.2.1))]) (fun y0tj2=>⟨[.row 26 [.d (slOf 3 Range.row v0.seen),.d (slOf 12 Record.row v0.open_),.d (slOf 4 Head.row v0.heads)],.row 34 [.d (cI v1.source),.d (cI v1.number),.d (cI v1.format),.d (slOf 12 Record.row v1.records)],.row 36 [.d (cI v2.earliest),.d (cI v2.latest)],.row 26 [.d (nilD),.d (nilD),.d (nilD)],.row 26 [.d (slOf 3 Range.row y4.1),.d (slOf 12 Record.row y4.2.1),.tsl 4 (y4.2.2.map Head.row) 2]],[⟨47,4,y0tj2.length,some (y0tj2.map Reject.row)⟩,⟨49,12,v13j1.length,none⟩,⟨30,4,y4.2.2.length,none⟩]⟩) (fun s=>f_intake_Accept_j2 v1 y4 y5 s=some r) ?_ ?_
    ·rintro y0tj2 H
     replace H:f_intake_Accept_j2 v1 y4 y5 y0tj2=some r:=H
     unfold f_intake_Accept_j2 at H
     obtain ⟨y6,hy6,H⟩:=bind_some' H
     refine .B 3 [] rfl trivial ?_
     refine .callF (en 48 rfl) rfl [] [0] (x:=.d (.tup [])) (st':=⟨[.row 26 [.d (slOf 3 Range.row v0.seen),.d (slOf 12 Record.row v0.open_),.d (slOf 4 Head.row v0.heads)],.row 34 [.d (cI v1.source),.d (cI v1.number),.d (cI v1.format),.d (slOf 12 Record.row v1.records)],.row 36 [.d (cI v2.earliest),.d (cI v2.latest)],.row 26 [.d (nilD),.d (nilD),.d (nilD)],.row 26 [.d (slOf 3 Range.row y4.1),.d (slOf 12 Record.row y4.2.1),.tsl 4 (y4.2.2.map Head.row) 2]],[⟨47,4,y0tj2.length,some (y6.map Reject.row)⟩,⟨49,12,v13j1.length,none⟩,⟨30,4,y4.2.2.length,none⟩]⟩) rfl (c_x_SortReject (hy6)) ⟨.rfl' _,.rfl' _,trivial⟩ rfl rfl rfl rfl rfl rfl ?_
     obtain ⟨y7,hy7,H⟩:=bind_some' H
     obtain ⟨hk1,H⟩:=ck_some H
     refine .B 43 [.d (.tup [slOf 12 Record.row y7.1,slOf 12 Record.row y7.2]),.i (v1.records.length:Int),.d (.agg (Head.row (⟨v1.source,v1.number,v1.format,(v1.records.length:Int)⟩:Head))),.d (slOf 4 Head.row ([(⟨v1.source,v1.number,v1.format,(v1.records.length:Int)⟩:Head)]:List Head)),.a 2 30 4 Head.row (y4.2.2++([(⟨v1.source,v1.number,v1.format,(v1.records.length:Int)⟩:Head)]:List Head))] rfl ⟨s24.a rfl rfl rfl rfl hk1,g_buildSlice1 underlying24 hi30 hs30 hz30 rfl rfl rfl rfl rfl,OpQ.g (q_buildP pl_30 hi30 hz30 rfl rfl),s23.n rfl rfl,g_call (en 49 rfl) rfl rfl (c_f_correlate_Join (hy7))⟩ ?_
     refine .cellLe 4 2 rfl rfl (.tsl _ _ _) ?_
     refine .A 8 [] rfl trivial ?_
     refine .freezeL (l:=y6) (row:=Reject.row) (i:=8) rfl rfl ?_
     refine .R func16 results16 rfl ?_
     cases H
     exact .m rfl (.tupL ⟨.rfl' _,.rfl' _,.tsl _ _ _,.rfl' _,trivial⟩)
    ·intro hj2 hj2x
     obtain ⟨n1,H⟩:=loop_some H
     refine .loop (ι:=Nat×(List Reject×Int)) (fun ⟨_,y0tl1,v72l1⟩=>[(4,.ref 1 0),(6,.ref 3 0),(11,.d (slOf 1 rI y3.1)),(12,.vc 0 y0tl1.length),(16,.ref 4 0),(17,.d (slOf 3 Range.row y5.1)),(18,.d (slOf 12 Record.row y5.2.1)),(70,.d (slOf 4 Reject.row y5.2.2)),(71,.d (cI (y5.2.2.length:Int))),(72,.d (cI v72l1))]) (fun ⟨_,y0tl1,v72l1⟩=>⟨[.row 26 [.d (slOf 3 Range.row v0.seen),.d (slOf 12 Record.row v0.open_),.d (slOf 4 Head.row v0.heads)],.row 34 [.d (cI v1.source),.d (cI v1.number),.d (cI v1.format),.d (slOf 12 Record.row v1.records)],.row 36 [.d (cI v2.earliest),.d (cI v2.latest)],.row 26 [.d (nilD),.d (nilD),.d (nilD)],.row 26 [.d (slOf 3 Range.row y4.1),.d (slOf 12 Record.row y4.2.1),.tsl 4 (y4.2.2.map Head.row) 2]],[⟨47,4,y0tl1.length,some (y0tl1.map Reject.row)⟩,⟨49,12,v13j1.length,none⟩,⟨30,4,y4.2.2.length,none⟩]⟩) (fun p=>iter (fun s=>f_intake_Accept_l1 v1 y3 y4 y5 s.1 s.2) p.1 p.2=some r) (·.1) (n1,(y3.2,0)) H (.cons rfl (.rfl' _) (.cons rfl (.rfl' _) (.cons rfl (.rfl' _) (.cons rfl (.rfl' _) (.cons rfl (.rfl' _) (.cons rfl (.rfl' _) (.cons rfl (.rfl' _) (.cons rfl (.rfl' _) (.cons rfl (.rfl' _) (.cons rfl (.rfl' _) (.nil))))))))))) rfl ?_
     rintro ⟨m1,y0tl1,v72l1⟩ HI ih1
     obtain ⟨n1,q1,hm1,H,HK1⟩:=iter_succ HI
     clear HI
     replace H:f_intake_Accept_l1 v1 y3 y4 y5 y0tl1 v72l1=some q1:=H
     unfold f_intake_Accept_l1 at H
     refine .A 5 [] rfl trivial ?_
     refine .ite H rfl (fun H=>?_) (fun H=>?_)
     ·obtain ⟨hk2,H⟩:=ck_some H
      obtain ⟨hk3,H⟩:=ck_some H
      obtain ⟨hk4,H⟩:=ck_some H
      obtain ⟨hk5,H⟩:=ck_some H
      refine .A 32 [.d (.ro (Reject.row (nth y5.2.2 v72l1.toNat))),.r 5,.d (.ro (rI (nth y3.1 ((nth y5.2.2 v72l1.toNat).index).toNat))),.d (slOf 4 Reject.row ([(⟨(nth y5.2.2 v72l1.toNat).source,(nth y5.2.2 v72l1.toNat).serial,nth y3.1 ((nth y5.2.2 v72l1.toNat).index).toNat,(nth y5.2.2 v72l1.toNat).err⟩:Reject)]:List Reject)),.t (.vc 0 ((y0tl1++([(⟨(nth y5.2.2 v72l1.toNat).source,(nth y5.2.2 v72l1.toNat).serial,nth y3.1 ((nth y5.2.2 v72l1.toNat).index).toNat,(nth y5.2.2 v72l1.toNat).err⟩:Reject)]:List Reject)).length)) 0 ⟨47,4,((y0tl1++([(⟨(nth y5.2.2 v72l1.toNat).source,(nth y5.2.2 v72l1.toNat).serial,nth y3.1 ((nth y5.2.2 v72l1.toNat).index).toNat,(nth y5.2.2 v72l1.toNat).err⟩:Reject)]:List Reject)).length),some ((y0tl1++([(⟨(nth y5.2.2 v72l1.toNat).source,(nth y5.2.2 v72l1.toNat).serial,nth y3.1 ((nth y5.2.2 v72l1.toNat).index).toNat,(nth y5.2.2 v72l1.toNat).err⟩:Reject)]:List Reject)).map Reject.row)⟩,.i (v72l1+1)] rfl ⟨g_addI rfl rfl hk5,.e (v_appendV (l:=y0tl1) (l':=([(⟨(nth y5.2.2 v72l1.toNat).source,(nth y5.2.2 v72l1.toNat).serial,nth y3.1 ((nth y5.2.2 v72l1.toNat).index).toNat,(nth y5.2.2 v72l1.toNat).err⟩:Reject)]:List Reject)) (row:=Reject.row) underlying38 hi47 hz47 hs47 rfl (by rw [hb47]; decide) rfl rfl rfl rfl hk4) rfl,g_buildSlice1 underlying38 hi47 hs47 hz47 rfl rfl rfl rfl rfl,s69.ix rfl rfl rfl hk3,s38.ix rfl rfl rfl hk2⟩ ?_
      cases H
      exact .t 5 3 (ih1 (n1,(y0tl1++([(⟨(nth y5.2.2 v72l1.toNat).source,(nth y5.2.2 v72l1.toNat).serial,nth y3.1 ((nth y5.2.2 v72l1.toNat).index).toNat,(nth y5.2.2 v72l1.toNat).err⟩:Reject)]:List Reject),v72l1+1)) HK1 hm1) rfl rfl rfl rfl rfl hS rfl
     ·refine .A 1 [] rfl trivial ?_
      obtain ⟨q0,H9,hq0⟩:=map_some' H; clear H; cases hq0
      cases HK1
      have H:=H9
      exact .z (hj2x y0tl1 H) rfl rfl
   ·intro hj1 hj1x
    obtain ⟨n2,H⟩:=loop_some H
    refine .loop (ι:=Nat×(List Record×Int)) (fun ⟨_,v13l2,v47l2⟩=>[(3,.ref 0 0),(4,.ref 1 0),(6,.ref 3 0),(11,.d (slOf 1 rI y3.1)),(12,.vc 0 y3.2.length),(13,.tsl 12 (v13l2.map Record.row) 1),(45,.d (slOf 1 rI y3.1)),(46,.d (cI (y3.1.length:Int))),(47,.d (cI v47l2))]) (fun ⟨_,v13l2,v47l2⟩=>⟨[.row 26 [.d (slOf 3 Range.row v0.seen),.d (slOf 12 Record.row v0.open_),.d (slOf 4 Head.row v0.heads)],.row 34 [.d (cI v1.source),.d (cI v1.number),.d (cI v1.format),.d (slOf 12 Record.row v1.records)],.row 36 [.d (cI v2.earliest),.d (cI v2.latest)],.row 26 [.d (nilD),.d (nilD),.d (nilD)]],[⟨47,4,y3.2.length,some (y3.2.map Reject.row)⟩,⟨49,12,v13l2.length,none⟩]⟩) (fun p=>iter (fun s=>f_intake_Accept_l2 v0 v1 y3 s.1 s.2) p.1 p.2=some r) (·.1) (n2,(([]:List Record),0)) H (.cons rfl (.rfl' _) (.cons rfl (.rfl' _) (.cons rfl (.rfl' _) (.cons rfl (.rfl' _) (.cons rfl (.rfl' _) (.cons rfl (.rfl' _) (.cons rfl (.rfl' _) (.cons rfl (.rfl' _) (.cons rfl (.rfl' _) (.nil)))))))))) rfl ?_
    rintro ⟨m1,v13l2,v47l2⟩ HI ih1
    obtain ⟨n1,q1,hm1,H,HK1⟩:=iter_succ HI
    clear HI
    replace H:f_intake_Accept_l2 v0 v1 y3 v13l2 v47l2=some q1:=H
    unfold f_intake_Accept_l2 at H
    refine .A 5 [] rfl trivial ?_
    refine .ite H rfl (fun H=>?_) (fun H=>?_)
    ·obtain ⟨hk6,H⟩:=ck_some H
     obtain ⟨hk7,H⟩:=ck_some H
     obtain ⟨hk8,H⟩:=ck_some H
     obtain ⟨hk9,H⟩:=ck_some H
     refine .A 25 [.d (.ro (rI (nth y3.1 v47l2.toNat))),.d (.ro (Record.row (nth v1.records (nth y3.1 v47l2.toNat).toNat))),.d (slOf 12 Record.row ([nth v1.records (nth y3.1 v47l2.toNat).toNat]:List Record)),.a 1 49 12 Record.row (v13l2++([nth v1.records (nth y3.1 v47l2.toNat).toNat]:List Record)),.i (v47l2+1)] rfl ⟨g_addI rfl rfl hk9,s23.a rfl rfl rfl rfl hk8,g_buildSlice1 underlying23 hi49 hs49 hz49 rfl rfl rfl rfl rfl,s23.ix rfl rfl rfl hk7,s69.ix rfl rfl rfl hk6⟩ ?_
     cases H
     exact .z (ih1 (n1,(v13l2++([nth v1.records (nth y3.1 v47l2.toNat).toNat]:List Record),v47l2+1)) HK1 hm1) rfl rfl
    ·refine .A 1 [] rfl trivial ?_
     obtain ⟨q0,H9,hq0⟩:=map_some' H; clear H; cases hq0
     cases HK1
     have H:=H9
     exact .z (hj1x v13l2 H) rfl rfl
theorem c_f_dedup_Check {v0seen:List Range} {r:Bool} (H:f_dedup_Check v0seen=some r):ACall prog 27 [slOf 3 Range.row v0seen] (·=cB r):=by
 refine ACall.enter' func27 rfl ntmps27 rfl fun S hS=>?_
 unfold f_dedup_Check at H
 refine .A 12 [.i (v0seen.length:Int)] rfl (s22.n rfl rfl) ?_
 obtain ⟨n1,H⟩:=loop_some H
 refine .loop (ι:=Nat×(Int)) (fun ⟨_,v8l1⟩=>[(0,.d (slOf 3 Range.row v0seen)),(6,.d (slOf 3 Range.row v0seen)),(7,.d (cI (v0seen.length:Int))),(8,.d (cI v8l1))]) (fun ⟨_,v8l1⟩=>⟨[],[]⟩) (fun p=>iter (fun s=>f_dedup_Check_l1 v0seen s) p.1 p.2=some r) (·.1) (n1,0) H (.cons rfl (.rfl' _) (.cons rfl (.rfl' _) (.cons rfl (.rfl' _) (.cons rfl (.rfl' _) (.nil))))) rfl ?_
 rintro ⟨m1,v8l1⟩ HI ih1
 obtain ⟨n1,q1,hm1,H,HK1⟩:=iter_succ HI
 clear HI
 replace H:f_dedup_Check_l1 v0seen v8l1=some q1:=H
 unfold f_dedup_Check_l1 at H
 refine .A 5 [] rfl trivial ?_
 refine .ite H rfl (fun H=>?_) (fun H=>?_)
 ·obtain ⟨hk1,H⟩:=ck_some H
  obtain ⟨y1,hy1,H⟩:=bind_some' H
  obtain ⟨y2,hy2,H⟩:=bind_some' H
  refine .A 37 [.d (.ro (Range.row (nth v0seen v8l1.toNat))),.r 0,.b y1,.b y2] rfl ⟨rfl,rfl,rfl,rfl,rfl,rfl,rfl,fun hg=>g_call (en 17 rfl) rfl rfl (c_f_dedup_identity (gcall_some hy2 hg)),rfl,rfl,rfl,rfl,g_call (en 17 rfl) rfl rfl (c_f_dedup_identity (hy1)),s22.ix rfl rfl rfl hk1⟩ ?_
  refine .ite H rfl (fun H=>?_) (fun H=>?_)
  ·refine .A 4 [] rfl trivial ?_
   refine .R func27 results27 rfl ?_
   cases H
   cases HK1
   exact .m rfl (.rfl' _)
  ·refine .A 6 [] rfl trivial ?_
   refine .ite H rfl (fun H=>?_) (fun H=>?_)
   ·obtain ⟨hk2,H⟩:=ck_some H
    obtain ⟨hk3,H⟩:=ck_some H
    obtain ⟨hk4,H⟩:=ck_some H
    refine .B 30 [.i (v8l1-1),.d (.ro (Range.row (nth v0seen (v8l1-1).toNat))),.r 1,.i (((nth v0seen (v8l1-1).toNat).to_)+1)] rfl ⟨rfl,rfl,rfl,fun hg=>g_addI rfl rfl (hk4 hg),rfl,rfl,rfl,rfl,rfl,rfl,rfl,s22.ix rfl rfl rfl hk3,g_subI rfl rfl hk2⟩ ?_
    refine .guardG (env':=[(52,_),(58,_)]) rfl rfl rfl ⟨.inr (.inl rfl),⟨.inr (.inr ⟨_,_,rfl,rfl⟩),trivial⟩⟩ rfl (fun hg=>OpQ.g (q_pickAndB rfl rfl rfl)) ?_
    refine .A 2 [] rfl rfl ?_
    refine .ite H rfl (fun H=>?_) (fun H=>?_)
    ·refine .A 4 [] rfl trivial ?_
     refine .R func27 results27 rfl ?_
     cases H
     cases HK1
     exact .m rfl (.rfl' _)
    ·obtain ⟨hk5,H⟩:=ck_some H
     refine .A 6 [.i (v8l1+1)] rfl (g_addI rfl rfl hk5) ?_
     cases H
     exact .t 0 0 (ih1 (n1,(v8l1+1)) HK1 hm1) rfl rfl rfl rfl rfl hS rfl
   ·obtain ⟨hk6,H⟩:=ck_some H
    refine .A 6 [.i (v8l1+1)] rfl (g_addI rfl rfl hk6) ?_
    cases H
    exact .t 0 0 (ih1 (n1,(v8l1+1)) HK1 hm1) rfl rfl rfl rfl rfl hS rfl
 ·refine .A 5 [] rfl trivial ?_
  refine .R func27 results27 rfl ?_
  cases H
  cases HK1
  exact .m rfl (.rfl' _)
theorem c_f_api_Record {v0s1:List Record} {v1s2:List Record} {r:Bool} (H:f_api_Record v0s1 v1s2=some r):ACall prog 55 [slOf 12 Record.row v0s1,slOf 12 Record.row v1s2] (·=cB r):=by
 refine ACall.enter' func55 rfl ntmps55 rfl fun S hS=>?_
 unfold f_api_Record at H
 refine .A 13 [.i (v0s1.length:Int),.i (v1s2.length:Int)] rfl ⟨s23.n rfl rfl,s23.n rfl rfl⟩ ?_
 refine .ite H rfl (fun H=>?_) (fun H=>?_)
 ·refine .A 4 [] rfl trivial ?_
  refine .R func55 results55 rfl ?_
  cases H
  exact .m rfl (.rfl' _)
 ·refine .A 9 [.i (v0s1.length:Int)] rfl (s23.n rfl rfl) ?_
  obtain ⟨n1,H⟩:=loop_some H
  refine .loop (ι:=Nat×(Int)) (fun ⟨_,v13l1⟩=>[(0,.d (slOf 12 Record.row v0s1)),(1,.d (slOf 12 Record.row v1s2)),(12,.d (cI (v0s1.length:Int))),(13,.d (cI v13l1))]) (fun ⟨_,v13l1⟩=>⟨[],[]⟩) (fun p=>iter (fun s=>f_api_Record_l1 v0s1 v1s2 s) p.1 p.2=some r) (·.1) (n1,0) H (.cons rfl (.rfl' _) (.cons rfl (.rfl' _) (.cons rfl (.rfl' _) (.cons rfl (.rfl' _) (.nil))))) rfl ?_
  rintro ⟨m1,v13l1⟩ HI ih1
  obtain ⟨n1,q1,hm1,H,HK1⟩:=iter_succ HI
  clear HI
  replace H:f_api_Record_l1 v0s1 v1s2 v13l1=some q1:=H
  unfold f_api_Record_l1 at H
  refine .A 5 [] rfl trivial ?_
  refine .ite H rfl (fun H=>?_) (fun H=>?_)
  ·obtain ⟨hk1,H⟩:=ck_some H
   obtain ⟨hk2,H⟩:=ck_some H
   refine .A 21 [.p 9,.d (.ro (Record.row (nth v0s1 v13l1.toNat))),.d (.ro (Record.row (nth v1s2 v13l1.toNat))),.b (!(eqVs (Record.vals (nth v0s1 v13l1.toNat)) (Record.vals (nth v1s2 v13l1.toNat))))] rfl ⟨OpQ.g (q_stneq fk_49 rfl rfl (xs:=Record.vals (nth v0s1 v13l1.toNat)) (ys:=Record.vals (nth v1s2 v13l1.toNat)) rfl rfl rfl rfl),s23.ix rfl rfl rfl hk2,s23.ix rfl rfl rfl hk1,(show drawB _ _=true by kernel_rfl)⟩ ?_
   refine .ite H rfl (fun H=>?_) (fun H=>?_)
   ·refine .A 4 [] rfl trivial ?_
    refine .R func55 results55 rfl ?_
    cases H
    cases HK1
    exact .m rfl (.rfl' _)
   ·obtain ⟨hk3,H⟩:=ck_some H
    refine .A 6 [.i (v13l1+1)] rfl (g_addI rfl rfl hk3) ?_
    cases H
    exact .z (ih1 (n1,(v13l1+1)) HK1 hm1) rfl rfl
  ·refine .A 5 [] rfl trivial ?_
   refine .R func55 results55 rfl ?_
   cases H
   cases HK1
   exact .m rfl (.rfl' _)
theorem c_f_intake_open {v0in:Intake} {r:Bool} (H:f_intake_open v0in=some r):ACall prog 28 [.agg (Intake.row v0in)] (·=cB r):=by
 obtain ⟨i4,hi4,hz4,hs4,hb4⟩:=in_4
 obtain ⟨i90,hi90,hz90,hs90,hb90⟩:=in_90
 refine ACall.enter' func28 rfl ntmps28 rfl fun S hS=>?_
 unfold f_intake_open at H
 refine .A 18 [.r 0,.v (.mp 1) ⟨[.row 26 [.d (slOf 3 Range.row v0in.seen),.d (slOf 12 Record.row v0in.open_),.d (slOf 4 Head.row v0in.heads)],.map (mEnc (fun x=>Value.agg (IntakeIdentity.vals x).toArray) (fun x=>cB x) ([]:List (IntakeIdentity×Bool)))],[]⟩,.i (v0in.open_.length:Int)] rfl ⟨s23.n rfl rfl,.e (v_makeMap) rfl⟩ ?_
 refine .blockJoin2 (ι:=(List (IntakeIdentity×Bool))) (fun o1c0j1=>[(1,.ref 0 0)]) (fun o1c0j1=>⟨[.row 26 [.d (slOf 3 Range.row v0in.seen),.d (slOf 12 Record.row v0in.open_),.d (slOf 4 Head.row v0in.heads)],.map (mEnc (fun x=>Value.agg (IntakeIdentity.vals x).toArray) (fun x=>cB x) o1c0j1)],[]⟩) (fun s=>f_intake_open_j1 v0in s=some r) ?_ ?_
 ·rintro o1c0j1 H
  replace H:f_intake_open_j1 v0in o1c0j1=some r:=H
  unfold f_intake_open_j1 at H
  obtain ⟨y1,hy1,H⟩:=bind_some' H
  obtain ⟨y2,hy2,H⟩:=bind_some' H
  refine .A 24 [.d (.tup [slOf 12 Record.row y1.1,slOf 12 Record.row y1.2]),.i (y1.1.length:Int),.b y2] rfl ⟨rfl,fun hg=>g_call (en 50 rfl) rfl rfl (c_f_api_Record (gcall_some hy2 hg)),rfl,rfl,rfl,s23.n rfl rfl,g_call (en 49 rfl) rfl rfl ((c_f_correlate_Join (hy1)).le ⟨.nil 12,.rfl' _,trivial⟩)⟩ ?_
  refine .R func28 results28 rfl ?_
  cases H
  exact .m rfl (.rfl' _)
 ·intro hj1 hj1x
  obtain ⟨n1,H⟩:=loop_some H
  refine .loop (ι:=Nat×(Int×(List (IntakeIdentity×Bool)))) (fun ⟨_,v13l1,o1c0l1⟩=>[(1,.ref 0 0),(3,.mp 1),(11,.d (slOf 12 Record.row v0in.open_)),(12,.d (cI (v0in.open_.length:Int))),(13,.d (cI v13l1))]) (fun ⟨_,v13l1,o1c0l1⟩=>⟨[.row 26 [.d (slOf 3 Range.row v0in.seen),.d (slOf 12 Record.row v0in.open_),.d (slOf 4 Head.row v0in.heads)],.map (mEnc (fun x=>Value.agg (IntakeIdentity.vals x).toArray) (fun x=>cB x) o1c0l1)],[]⟩) (fun p=>iter (fun s=>f_intake_open_l1 v0in s.1 s.2) p.1 p.2=some r) (·.1) (n1,(0,([]:List (IntakeIdentity×Bool)))) H (.cons rfl (.rfl' _) (.cons rfl (.rfl' _) (.cons rfl (.rfl' _) (.cons rfl (.rfl' _) (.cons rfl (.rfl' _) (.nil)))))) rfl ?_
  rintro ⟨m1,v13l1,o1c0l1⟩ HI ih1
  obtain ⟨n1,q1,hm1,H,HK1⟩:=iter_succ HI
  clear HI
  replace H:f_intake_open_l1 v0in v13l1 o1c0l1=some q1:=H
  unfold f_intake_open_l1 at H
  refine .A 5 [] rfl trivial ?_
  refine .ite H rfl (fun H=>?_) (fun H=>?_)
  ·obtain ⟨hk1,H⟩:=ck_some H
   obtain ⟨y3,hy3,H⟩:=bind_some' H
   obtain ⟨y4,hy4,H⟩:=bind_some' H
   refine .A 47 [.d (.ro (Record.row (nth v0in.open_ v13l1.toNat))),.r 2,.d (.agg (IntakeIdentity.row (⟨(nth v0in.open_ v13l1.toNat).source,(nth v0in.open_ v13l1.toNat).serial⟩:IntakeIdentity))),.r 3,.i y3,.b ((alook o1c0l1 (⟨(nth v0in.open_ v13l1.toNat).source,(nth v0in.open_ v13l1.toNat).serial⟩:IntakeIdentity)).getD false),.b y4] rfl ⟨rfl,rfl,fun hg=>g_call (en 23 rfl) rfl rfl (c_f_dedup_Has (gcall_some hy4 hg)),rfl,rfl,rfl,rfl,rfl,rfl,rfl,fun hg=>OpQ.g (q_lookupD kf_IntakeIdentity (l:=o1c0l1) (val:=(fun x=>cB x)) (k:=(⟨(nth v0in.open_ v13l1.toNat).source,(nth v0in.open_ v13l1.toNat).serial⟩:IntakeIdentity)) (a0:=false) underlying88 hi4 hz4 (show DLe (cB false) (cB false) from .rfl' _) rfl rfl rfl (fun _ _ _ h=>aggKey (vs:=_) h rfl)),rfl,rfl,rfl,rfl,fun hg=>g_call (en 32 rfl) rfl rfl (c_f_validate_Check (gcall_some hy3 hg)),rfl,OpQ.g (q_buildP pl_90 hi90 hz90 rfl rfl),s23.ix rfl rfl rfl hk1⟩ ?_
   refine .ite H rfl (fun H=>?_) (fun H=>?_)
   ·refine .A 4 [] rfl trivial ?_
    refine .R func28 results28 rfl ?_
    cases H
    cases HK1
    exact .m rfl (.rfl' _)
   ·obtain ⟨hk2,H⟩:=ck_some H
    refine .A 11 [.u ⟨[.row 26 [.d (slOf 3 Range.row v0in.seen),.d (slOf 12 Record.row v0in.open_),.d (slOf 4 Head.row v0in.heads)],.map (mEnc (fun x=>Value.agg (IntakeIdentity.vals x).toArray) (fun x=>cB x) (aset o1c0l1 (⟨(nth v0in.open_ v13l1.toNat).source,(nth v0in.open_ v13l1.toNat).serial⟩:IntakeIdentity) true)),.row 49 [.d (cI ((nth v0in.open_ v13l1.toNat).source)),.d (cI ((nth v0in.open_ v13l1.toNat).serial)),.d (cI ((nth v0in.open_ v13l1.toNat).kind)),.d (cS ((nth v0in.open_ v13l1.toNat).a)),.d (cS ((nth v0in.open_ v13l1.toNat).b)),.d (cI ((nth v0in.open_ v13l1.toNat).start)),.d (cI ((nth v0in.open_ v13l1.toNat).units)),.d (cI ((nth v0in.open_ v13l1.toNat).call)),.d (cI ((nth v0in.open_ v13l1.toNat).part)),.d (cB ((nth v0in.open_ v13l1.toNat).last)),.d (cI ((nth v0in.open_ v13l1.toNat).trunk)),.d (cB ((nth v0in.open_ v13l1.toNat).inbound))],.row 90 [.d (cI ((nth v0in.open_ v13l1.toNat).source)),.d (cI ((nth v0in.open_ v13l1.toNat).serial))]],[]⟩,.i (v13l1+1)] rfl ⟨g_addI rfl rfl hk2,.e (u_mapUpdateD kf_IntakeIdentity (l:=o1c0l1) (val:=(fun x=>cB x)) (k:=(⟨(nth v0in.open_ v13l1.toNat).source,(nth v0in.open_ v13l1.toNat).serial⟩:IntakeIdentity)) (a:=true) underlying88 rfl rfl rfl (fun _ _ _ h=>aggKey (vs:=_) h rfl) rfl (.rfl' _)) rfl⟩ ?_
    cases H
    exact .t 2 0 (ih1 (n1,(v13l1+1,aset o1c0l1 (⟨(nth v0in.open_ v13l1.toNat).source,(nth v0in.open_ v13l1.toNat).serial⟩:IntakeIdentity) true)) HK1 hm1) rfl rfl rfl rfl (okBoth rfl (okCons rfl (okCons okMap rfl))) hS rfl
  ·refine .A 1 [] rfl trivial ?_
   obtain ⟨q0,H9,hq0⟩:=map_some' H; clear H; cases hq0
   cases HK1
   have H:=H9
   exact .z (hj1x o1c0l1 H) rfl rfl
set_option maxRecDepth 100000
set_option maxHeartbeats 1000000
theorem c_g_intake_heads {v0:List Head} {r:(List (Int×Int))} (H:g_intake_heads v0=some r):ACallS prog 26 [.d (slOf 4 Head.row v0)] ⟨[],[]⟩ (QE (.tup [.mp 0,.d (cB true)]) ⟨[.map (mEnc (fun n=>Value.int .i64 n) (fun x=>cI x) r)],[]⟩):=by
 obtain ⟨i3,hi3,hz3,hs3,hb3⟩:=in_3
 obtain ⟨i26,hi26,hz26,hs26,hb26⟩:=in_26
 obtain ⟨i30,hi30,hz30,hs30,hb30⟩:=in_30
 refine ACallS.keep ?_
 refine ACallS.enter func26 rfl ntmps26 rfl fun S hS=>?_
 unfold g_intake_heads at H
 refine .A 18 [.v (.mp 0) ⟨[.map (mEnc (fun n=>Value.int .i64 n) (fun x=>cI x) ([]:List (Int×Int)))],[]⟩,.i (v0.length:Int)] rfl ⟨s24.n rfl rfl,.e (v_makeMap) rfl⟩ ?_
 obtain ⟨n1,H⟩:=loop_some H
 refine .loop (ι:=Nat×(Int×(List (Int×Int)))) (fun ⟨_,v11l1,o0c0l1⟩=>[(0,.d (slOf 4 Head.row v0)),(4,.mp 0),(9,.d (slOf 4 Head.row v0)),(10,.d (cI (v0.length:Int))),(11,.d (cI v11l1))]) (fun ⟨_,v11l1,o0c0l1⟩=>⟨[.map (mEnc (fun n=>Value.int .i64 n) (fun x=>cI x) o0c0l1)],[]⟩) (fun p=>iter (fun s=>g_intake_heads_l1 v0 s.1 s.2) p.1 p.2=some r) (·.1) (n1,(0,([]:List (Int×Int)))) H (.cons rfl (.rfl' _) (.cons rfl (.rfl' _) (.cons rfl (.rfl' _) (.cons rfl (.rfl' _) (.cons rfl (.rfl' _) (.nil)))))) rfl ?_
 rintro ⟨m1,v11l1,o0c0l1⟩ HI ih1
 obtain ⟨n1,q1,hm1,H,HK1⟩:=iter_succ HI
 clear HI
 replace H:g_intake_heads_l1 v0 v11l1 o0c0l1=some q1:=H
 unfold g_intake_heads_l1 at H
 refine .A 5 [] rfl trivial ?_
 refine .ite H rfl (fun H=>?_) (fun H=>?_)
 ·obtain ⟨hk1,H⟩:=ck_some H
  obtain ⟨hk2,H⟩:=ck_some H
  obtain ⟨y1,hy1,H⟩:=bind_some' H
  refine .A 73 [.d (.ro (Head.row (nth v0 v11l1.toNat))),.r 1,.r 2,.p 8,.d (slOf 4 Head.row (v0.take v11l1.toNat)),.d (.agg (Intake.row (⟨([]:List Range),([]:List Record),v0.take v11l1.toNat⟩:Intake))),.i y1,.b (!(eqVs (Head.vals (nth v0 v11l1.toNat)) (Head.vals (⟨(nth v0 v11l1.toNat).source,y1,(nth v0 v11l1.toNat).format,(nth v0 v11l1.toNat).count⟩:Head))))] rfl ⟨rfl,rfl,rfl,rfl,rfl,rfl,rfl,rfl,rfl,rfl,rfl,rfl,rfl,rfl,rfl,rfl,rfl,rfl,rfl,rfl,rfl,OpQ.g (q_stneq fk_30 rfl rfl (xs:=Head.vals (nth v0 v11l1.toNat)) (ys:=Head.vals (⟨(nth v0 v11l1.toNat).source,y1,(nth v0 v11l1.toNat).format,(nth v0 v11l1.toNat).count⟩:Head)) rfl rfl rfl rfl),g_call (en 44 rfl) rfl rfl (c_f_intake_Next (hy1)),OpQ.g (OpQ.le (q_buildP pl_26 hi26 hz26 rfl rfl) (EVle.d (.agg ⟨.nil 3,.nil 12,.rfl' _,trivial⟩))),OpQ.g (q_slHL (l:=v0) (row:=Head.row) underlying24 hi30 hs30 rfl rfl rfl hk2),(show drawB _ _=true by kernel_rfl),s24.ix rfl rfl rfl hk1⟩ ?_
  refine .ite H rfl (fun H=>?_) (fun H=>?_)
  ·refine .A 5 [] rfl trivial ?_
   cases H
  ·obtain ⟨hk3,H⟩:=ck_some H
   obtain ⟨hk4,H⟩:=ck_some H
   refine .A 16 [.i ((alook o0c0l1 ((nth v0 v11l1.toNat).source)).getD 0),.i (((alook o0c0l1 ((nth v0 v11l1.toNat).source)).getD 0)+((nth v0 v11l1.toNat).count)),.u ⟨[.map (mEnc (fun n=>Value.int .i64 n) (fun x=>cI x) (aset o0c0l1 ((nth v0 v11l1.toNat).source) (((alook o0c0l1 ((nth v0 v11l1.toNat).source)).getD 0)+((nth v0 v11l1.toNat).count)))),.row 30 [.d (cI ((nth v0 v11l1.toNat).source)),.d (cI ((nth v0 v11l1.toNat).number)),.d (cI ((nth v0 v11l1.toNat).format)),.d (cI ((nth v0 v11l1.toNat).count))],.row 30 [.d (cI ((nth v0 v11l1.toNat).source)),.d (cI y1),.d (cI ((nth v0 v11l1.toNat).format)),.d (cI ((nth v0 v11l1.toNat).count))]],[]⟩,.i (v11l1+1)] rfl ⟨g_addI rfl rfl hk4,.e (u_mapUpdateD (intKF underlying3) (l:=o0c0l1) (val:=(fun x=>cI x)) (k:=(nth v0 v11l1.toNat).source) (a:=((alook o0c0l1 ((nth v0 v11l1.toNat).source)).getD 0)+((nth v0 v11l1.toNat).count)) underlying60 rfl rfl rfl (fun _ _ _ h=>exKey h) rfl (.rfl' _)) rfl,g_addI rfl rfl hk3,OpQ.g (q_lookupD (intKF underlying3) (l:=o0c0l1) (val:=(fun x=>cI x)) (k:=(nth v0 v11l1.toNat).source) (a0:=0) underlying60 hi3 hz3 (show DLe (cI 0) (cI 0) from .rfl' _) rfl rfl rfl (fun _ _ _ h=>exKey h))⟩ ?_
   cases H
   exact .t 1 0 (ih1 (n1,(v11l1+1,aset o0c0l1 ((nth v0 v11l1.toNat).source) (((alook o0c0l1 ((nth v0 v11l1.toNat).source)).getD 0)+((nth v0 v11l1.toNat).count)))) HK1 hm1) rfl rfl rfl rfl (okBoth rfl (okCons okMap rfl)) hS rfl
 ·refine .A 7 [] rfl trivial ?_
  refine .R func26 results26 rfl ?_
  cases H
  cases HK1
  exact ⟨[0],[],rfl,(okCons okMap rfl),(by first | rfl | (simp only [List.map_cons,List.map_nil,renMap,renArr,mergeSt]; rfl)),(by first | rfl | (simp only [List.map_cons,List.map_nil,renMap,renArr,mergeSt]; rfl)),(by first | rfl | (simp only [List.map_cons,List.map_nil,renMap,renArr,mergeSt]; rfl)),(by first | rfl | (simp only [List.map_cons,List.map_nil,renMap,renArr,mergeSt]; rfl)),(by first | rfl | (simp only [List.map_cons,List.map_nil,renMap,renArr,mergeSt]; rfl)),(by first | rfl | (simp only [List.map_cons,List.map_nil,renMap,renArr,mergeSt]; rfl)),.tupE ⟨.rfl' _,.rfl' _,trivial⟩⟩
theorem c_g_intake_heads_v1 {v0:List Head} {r:Unit} (H:g_intake_heads_v1 v0=some r):ACallS prog 26 [.d (slOf 4 Head.row v0)] ⟨[],[]⟩ (QE (.tup [.d (.any),.d (cB false)]) ⟨[],[]⟩):=by
 obtain ⟨i3,hi3,hz3,hs3,hb3⟩:=in_3
 obtain ⟨i26,hi26,hz26,hs26,hb26⟩:=in_26
 obtain ⟨i30,hi30,hz30,hs30,hb30⟩:=in_30
 refine ACallS.keep ?_
 refine ACallS.enter func26 rfl ntmps26 rfl fun S hS=>?_
 unfold g_intake_heads_v1 at H
 refine .A 18 [.v (.mp 0) ⟨[.map (mEnc (fun n=>Value.int .i64 n) (fun x=>cI x) ([]:List (Int×Int)))],[]⟩,.i (v0.length:Int)] rfl ⟨s24.n rfl rfl,.e (v_makeMap) rfl⟩ ?_
 obtain ⟨n1,H⟩:=loop_some H
 refine .loop (ι:=Nat×(Int×(List (Int×Int)))) (fun ⟨_,v11l1,o0c0l1⟩=>[(0,.d (slOf 4 Head.row v0)),(4,.mp 0),(9,.d (slOf 4 Head.row v0)),(10,.d (cI (v0.length:Int))),(11,.d (cI v11l1))]) (fun ⟨_,v11l1,o0c0l1⟩=>⟨[.map (mEnc (fun n=>Value.int .i64 n) (fun x=>cI x) o0c0l1)],[]⟩) (fun p=>iter (fun s=>g_intake_heads_v1_l1 v0 s.1 s.2) p.1 p.2=some r) (·.1) (n1,(0,([]:List (Int×Int)))) H (.cons rfl (.rfl' _) (.cons rfl (.rfl' _) (.cons rfl (.rfl' _) (.cons rfl (.rfl' _) (.cons rfl (.rfl' _) (.nil)))))) rfl ?_
 rintro ⟨m1,v11l1,o0c0l1⟩ HI ih1
 obtain ⟨n1,q1,hm1,H,HK1⟩:=iter_succ HI
 clear HI
 replace H:g_intake_heads_v1_l1 v0 v11l1 o0c0l1=some q1:=H
 unfold g_intake_heads_v1_l1 at H
 refine .A 5 [] rfl trivial ?_
 refine .ite H rfl (fun H=>?_) (fun H=>?_)
 ·obtain ⟨hk1,H⟩:=ck_some H
  obtain ⟨hk2,H⟩:=ck_some H
  obtain ⟨y1,hy1,H⟩:=bind_some' H
  refine .A 73 [.d (.ro (Head.row (nth v0 v11l1.toNat))),.r 1,.r 2,.p 8,.d (slOf 4 Head.row (v0.take v11l1.toNat)),.d (.agg (Intake.row (⟨([]:List Range),([]:List Record),v0.take v11l1.toNat⟩:Intake))),.i y1,.b (!(eqVs (Head.vals (nth v0 v11l1.toNat)) (Head.vals (⟨(nth v0 v11l1.toNat).source,y1,(nth v0 v11l1.toNat).format,(nth v0 v11l1.toNat).count⟩:Head))))] rfl ⟨rfl,rfl,rfl,rfl,rfl,rfl,rfl,rfl,rfl,rfl,rfl,rfl,rfl,rfl,rfl,rfl,rfl,rfl,rfl,rfl,rfl,OpQ.g (q_stneq fk_30 rfl rfl (xs:=Head.vals (nth v0 v11l1.toNat)) (ys:=Head.vals (⟨(nth v0 v11l1.toNat).source,y1,(nth v0 v11l1.toNat).format,(nth v0 v11l1.toNat).count⟩:Head)) rfl rfl rfl rfl),g_call (en 44 rfl) rfl rfl (c_f_intake_Next (hy1)),OpQ.g (OpQ.le (q_buildP pl_26 hi26 hz26 rfl rfl) (EVle.d (.agg ⟨.nil 3,.nil 12,.rfl' _,trivial⟩))),OpQ.g (q_slHL (l:=v0) (row:=Head.row) underlying24 hi30 hs30 rfl rfl rfl hk2),(show drawB _ _=true by kernel_rfl),s24.ix rfl rfl rfl hk1⟩ ?_
  refine .ite H rfl (fun H=>?_) (fun H=>?_)
  ·refine .A 5 [] rfl trivial ?_
   refine .R func26 results26 rfl ?_
   cases H
   cases HK1
   exact ⟨[],[],rfl,rfl,(by first | rfl | (simp only [List.map_cons,List.map_nil,renMap,renArr,mergeSt]; rfl)),(by first | rfl | (simp only [List.map_cons,List.map_nil,renMap,renArr,mergeSt]; rfl)),(by first | rfl | (simp only [List.map_cons,List.map_nil,renMap,renArr,mergeSt]; rfl)),(by first | rfl | (simp only [List.map_cons,List.map_nil,renMap,renArr,mergeSt]; rfl)),(by first | rfl | (simp only [List.map_cons,List.map_nil,renMap,renArr,mergeSt]; rfl)),(by first | rfl | (simp only [List.map_cons,List.map_nil,renMap,renArr,mergeSt]; rfl)),.tupE ⟨.any _,.rfl' _,trivial⟩⟩
  ·obtain ⟨hk3,H⟩:=ck_some H
   obtain ⟨hk4,H⟩:=ck_some H
   refine .A 16 [.i ((alook o0c0l1 ((nth v0 v11l1.toNat).source)).getD 0),.i (((alook o0c0l1 ((nth v0 v11l1.toNat).source)).getD 0)+((nth v0 v11l1.toNat).count)),.u ⟨[.map (mEnc (fun n=>Value.int .i64 n) (fun x=>cI x) (aset o0c0l1 ((nth v0 v11l1.toNat).source) (((alook o0c0l1 ((nth v0 v11l1.toNat).source)).getD 0)+((nth v0 v11l1.toNat).count)))),.row 30 [.d (cI ((nth v0 v11l1.toNat).source)),.d (cI ((nth v0 v11l1.toNat).number)),.d (cI ((nth v0 v11l1.toNat).format)),.d (cI ((nth v0 v11l1.toNat).count))],.row 30 [.d (cI ((nth v0 v11l1.toNat).source)),.d (cI y1),.d (cI ((nth v0 v11l1.toNat).format)),.d (cI ((nth v0 v11l1.toNat).count))]],[]⟩,.i (v11l1+1)] rfl ⟨g_addI rfl rfl hk4,.e (u_mapUpdateD (intKF underlying3) (l:=o0c0l1) (val:=(fun x=>cI x)) (k:=(nth v0 v11l1.toNat).source) (a:=((alook o0c0l1 ((nth v0 v11l1.toNat).source)).getD 0)+((nth v0 v11l1.toNat).count)) underlying60 rfl rfl rfl (fun _ _ _ h=>exKey h) rfl (.rfl' _)) rfl,g_addI rfl rfl hk3,OpQ.g (q_lookupD (intKF underlying3) (l:=o0c0l1) (val:=(fun x=>cI x)) (k:=(nth v0 v11l1.toNat).source) (a0:=0) underlying60 hi3 hz3 (show DLe (cI 0) (cI 0) from .rfl' _) rfl rfl rfl (fun _ _ _ h=>exKey h))⟩ ?_
   cases H
   exact .t 1 0 (ih1 (n1,(v11l1+1,aset o0c0l1 ((nth v0 v11l1.toNat).source) (((alook o0c0l1 ((nth v0 v11l1.toNat).source)).getD 0)+((nth v0 v11l1.toNat).count)))) HK1 hm1) rfl rfl rfl rfl (okBoth rfl (okCons okMap rfl)) hS rfl
 ·refine .A 7 [] rfl trivial ?_
  cases H
theorem c_f_intake_Check {v0in:Intake} {r:Bool} (H:f_intake_Check v0in=some r):ACall prog 11 [.agg (Intake.row v0in)] (·=cB r):=by
 obtain ⟨i3,hi3,hz3,hs3,hb3⟩:=in_3
 refine ACall.enter' func11 rfl ntmps11 rfl fun S hS=>?_
 unfold f_intake_Check at H
 refine .A 6 [.r 0] rfl trivial ?_
 refine .split ((g_intake_heads v0in.heads).isSome) (fun hsp1=>?_) (fun hsp1=>?_)
 ·replace H:=ifT hsp1 H
  obtain ⟨y1,hy1,H⟩:=bind_some' H
  refine .B 3 [] rfl trivial ?_
  refine .callF (en 51 rfl) rfl [] [] (x:=.tup [.mp 1,.d (cB true)]) (st':=⟨[.row 26 [.d (slOf 3 Range.row v0in.seen),.d (slOf 12 Record.row v0in.open_),.d (slOf 4 Head.row v0in.heads)],.map (mEnc (fun n=>Value.int .i64 n) (fun x=>cI x) y1)],[]⟩) rfl (c_g_intake_heads (hy1)) ⟨.rfl' _,trivial⟩ rfl rfl (by first | rfl | (simp only [List.map_cons,List.map_nil,renMap,renArr,mergeSt]; rfl)) rfl rfl (by first | rfl | (simp only [List.map_cons,List.map_nil,renMap,renArr,mergeSt]; rfl)) ?_
  obtain ⟨y2,hy2,H⟩:=bind_some' H
  obtain ⟨y3,hy3,H⟩:=bind_some' H
  refine .A 23 [.b y2,.b y3] rfl ⟨rfl,rfl,fun hg=>g_call (en 52 rfl) rfl rfl (c_f_intake_open (gcall_some hy3 hg)),rfl,rfl,rfl,fun hg=>g_call (en 53 rfl) rfl rfl (c_f_dedup_Check (gcall_some hy2 hg)),rfl,rfl⟩ ?_
  refine .ite H rfl (fun H=>?_) (fun H=>?_)
  ·refine .A 4 [] rfl trivial ?_
   refine .R func11 results11 rfl ?_
   cases H
   exact .m rfl (.rfl' _)
  ·refine .A 15 [.v (.mp 2) ⟨[.row 26 [.d (slOf 3 Range.row v0in.seen),.d (slOf 12 Record.row v0in.open_),.d (slOf 4 Head.row v0in.heads)],.map (mEnc (fun n=>Value.int .i64 n) (fun x=>cI x) y1),.map (mEnc (fun n=>Value.int .i64 n) (fun x=>cI x) ([]:List (Int×Int)))],[]⟩,.i (v0in.seen.length:Int)] rfl ⟨s22.n rfl rfl,.e (v_makeMap) rfl⟩ ?_
   obtain ⟨n1,H⟩:=loop_some H
   refine .loop (ι:=Nat×(Int×(List (Int×Int)))) (fun ⟨_,v31l1,o2c0l1⟩=>[(3,.mp 1),(5,.mp 2),(29,.d (slOf 3 Range.row v0in.seen)),(30,.d (cI (v0in.seen.length:Int))),(31,.d (cI v31l1))]) (fun ⟨_,v31l1,o2c0l1⟩=>⟨[.row 26 [.d (slOf 3 Range.row v0in.seen),.d (slOf 12 Record.row v0in.open_),.d (slOf 4 Head.row v0in.heads)],.map (mEnc (fun n=>Value.int .i64 n) (fun x=>cI x) y1),.map (mEnc (fun n=>Value.int .i64 n) (fun x=>cI x) o2c0l1)],[]⟩) (fun p=>iter (fun s=>f_intake_Check_l1 v0in y1 s.1 s.2) p.1 p.2=some r) (·.1) (n1,(0,([]:List (Int×Int)))) H (.cons rfl (.rfl' _) (.cons rfl (.rfl' _) (.cons rfl (.rfl' _) (.cons rfl (.rfl' _) (.cons rfl (.rfl' _) (.nil)))))) rfl ?_
   rintro ⟨m1,v31l1,o2c0l1⟩ HI ih1
   obtain ⟨n1,q1,hm1,H,HK1⟩:=iter_succ HI
   clear HI
   replace H:f_intake_Check_l1 v0in y1 v31l1 o2c0l1=some q1:=H
   unfold f_intake_Check_l1 at H
   refine .A 5 [] rfl trivial ?_
   refine .ite H rfl (fun H=>?_) (fun H=>?_)
   ·obtain ⟨hk1,H⟩:=ck_some H
    obtain ⟨hk2,H⟩:=ck_some H
    obtain ⟨hk3,H⟩:=ck_some H
    obtain ⟨hk4,H⟩:=ck_some H
    refine .A 37 [.d (.ro (Range.row (nth v0in.seen v31l1.toNat))),.r 3,.i ((alook o2c0l1 ((nth v0in.seen v31l1.toNat).source)).getD 0),.i (((nth v0in.seen v31l1.toNat).to_) - ((nth v0in.seen v31l1.toNat).from_)),.i ((((nth v0in.seen v31l1.toNat).to_) - ((nth v0in.seen v31l1.toNat).from_))+1),.i (((alook o2c0l1 ((nth v0in.seen v31l1.toNat).source)).getD 0)+((((nth v0in.seen v31l1.toNat).to_) - ((nth v0in.seen v31l1.toNat).from_))+1)),.u ⟨[.row 26 [.d (slOf 3 Range.row v0in.seen),.d (slOf 12 Record.row v0in.open_),.d (slOf 4 Head.row v0in.heads)],.map (mEnc (fun n=>Value.int .i64 n) (fun x=>cI x) y1),.map (mEnc (fun n=>Value.int .i64 n) (fun x=>cI x) (aset o2c0l1 ((nth v0in.seen v31l1.toNat).source) (((alook o2c0l1 ((nth v0in.seen v31l1.toNat).source)).getD 0)+((((nth v0in.seen v31l1.toNat).to_) - ((nth v0in.seen v31l1.toNat).from_))+1)))),.row 65 [.d (cI ((nth v0in.seen v31l1.toNat).source)),.d (cI ((nth v0in.seen v31l1.toNat).from_)),.d (cI ((nth v0in.seen v31l1.toNat).to_))]],[]⟩,.i ((alook (aset o2c0l1 ((nth v0in.seen v31l1.toNat).source) (((alook o2c0l1 ((nth v0in.seen v31l1.toNat).source)).getD 0)+((((nth v0in.seen v31l1.toNat).to_) - ((nth v0in.seen v31l1.toNat).from_))+1))) ((nth v0in.seen v31l1.toNat).source)).getD 0),.i ((alook y1 ((nth v0in.seen v31l1.toNat).source)).getD 0)] rfl ⟨OpQ.g (q_lookupD (intKF underlying3) (l:=y1) (val:=(fun x=>cI x)) (k:=(nth v0in.seen v31l1.toNat).source) (a0:=0) underlying60 hi3 hz3 (show DLe (cI 0) (cI 0) from .rfl' _) rfl rfl rfl (fun _ _ _ h=>exKey h)),OpQ.g (q_lookupD (intKF underlying3) (l:=aset o2c0l1 ((nth v0in.seen v31l1.toNat).source) (((alook o2c0l1 ((nth v0in.seen v31l1.toNat).source)).getD 0)+((((nth v0in.seen v31l1.toNat).to_) - ((nth v0in.seen v31l1.toNat).from_))+1))) (val:=(fun x=>cI x)) (k:=(nth v0in.seen v31l1.toNat).source) (a0:=0) underlying60 hi3 hz3 (show DLe (cI 0) (cI 0) from .rfl' _) rfl rfl rfl (fun _ _ _ h=>exKey h)),.e (u_mapUpdateD (intKF underlying3) (l:=o2c0l1) (val:=(fun x=>cI x)) (k:=(nth v0in.seen v31l1.toNat).source) (a:=((alook o2c0l1 ((nth v0in.seen v31l1.toNat).source)).getD 0)+((((nth v0in.seen v31l1.toNat).to_) - ((nth v0in.seen v31l1.toNat).from_))+1)) underlying60 rfl rfl rfl (fun _ _ _ h=>exKey h) rfl (.rfl' _)) rfl,g_addI rfl rfl hk4,g_addI rfl rfl hk3,g_subI rfl rfl hk2,OpQ.g (q_lookupD (intKF underlying3) (l:=o2c0l1) (val:=(fun x=>cI x)) (k:=(nth v0in.seen v31l1.toNat).source) (a0:=0) underlying60 hi3 hz3 (show DLe (cI 0) (cI 0) from .rfl' _) rfl rfl rfl (fun _ _ _ h=>exKey h)),s22.ix rfl rfl rfl hk1⟩ ?_
    refine .ite H rfl (fun H=>?_) (fun H=>?_)
    ·refine .A 4 [] rfl trivial ?_
     refine .R func11 results11 rfl ?_
     cases H
     cases HK1
     exact .m rfl (.rfl' _)
    ·obtain ⟨hk5,H⟩:=ck_some H
     refine .A 6 [.i (v31l1+1)] rfl (g_addI rfl rfl hk5) ?_
     cases H
     exact .t 3 0 (ih1 (n1,(v31l1+1,aset o2c0l1 ((nth v0in.seen v31l1.toNat).source) (((alook o2c0l1 ((nth v0in.seen v31l1.toNat).source)).getD 0)+((((nth v0in.seen v31l1.toNat).to_) - ((nth v0in.seen v31l1.toNat).from_))+1)))) HK1 hm1) rfl rfl rfl rfl (okBoth rfl (okCons rfl (okCons okMap (okCons okMap rfl)))) hS rfl
   ·refine .A 5 [] rfl trivial ?_
    refine .R func11 results11 rfl ?_
    cases H
    cases HK1
    exact .m rfl (.rfl' _)
 ·replace H:=ifF hsp1 H
  obtain ⟨y4,hy4,H⟩:=bind_some' H
  refine .B 3 [] rfl trivial ?_
  refine .callF (en 51 rfl) rfl [] [] (x:=.tup [.d (.any),.d (cB false)]) (st':=⟨[.row 26 [.d (slOf 3 Range.row v0in.seen),.d (slOf 12 Record.row v0in.open_),.d (slOf 4 Head.row v0in.heads)]],[]⟩) rfl (c_g_intake_heads_v1 (hy4)) ⟨.rfl' _,trivial⟩ rfl rfl rfl rfl rfl rfl ?_
  obtain ⟨y5,hy5,H⟩:=bind_some' H
  obtain ⟨y6,hy6,H⟩:=bind_some' H
  refine .A 23 [.b y5,.b y6] rfl ⟨rfl,rfl,fun hg=>g_call (en 52 rfl) rfl rfl (c_f_intake_open (gcall_some hy6 hg)),rfl,rfl,rfl,fun hg=>g_call (en 53 rfl) rfl rfl (c_f_dedup_Check (gcall_some hy5 hg)),rfl,rfl⟩ ?_
  refine .cond rfl (fun hc=>?_) (fun hc=>absurd hc (by simp))
  clear hc
  refine .A 4 [] rfl trivial ?_
  refine .R func11 results11 rfl ?_
  cases H
  exact .m rfl (.rfl' _)
theorem c_f_w16_awake {r:Bool} (H:f_w16_awake=some r):ACall prog 10 [] (·=cB r):=by
 obtain ⟨i26,hi26,hz26,hs26,hb26⟩:=in_26
 obtain ⟨i34,hi34,hz34,hs34,hb34⟩:=in_34
 obtain ⟨i47,hi47,hz47,hs47,hb47⟩:=in_47
 obtain ⟨i49,hi49,hz49,hs49,hb49⟩:=in_49
 refine ACall.enter' func10 rfl ntmps10 rfl fun S hS=>?_
 unfold f_w16_awake at H
 refine .A 31 [.d (.agg (Record.row (⟨1,1,2,([49]:List UInt8),([50]:List UInt8),0,1,0,0,false,0,false⟩:Record))),.r 0,.r 1,.d (slOf 12 Record.row ([(⟨1,1,2,([49]:List UInt8),([50]:List UInt8),0,1,0,0,false,0,false⟩:Record),(⟨1,2,2,([49]:List UInt8),([50]:List UInt8),0,1,0,0,false,0,false⟩:Record)]:List Record)),.d (.agg (Batch.row (⟨1,1,1,([(⟨1,1,2,([49]:List UInt8),([50]:List UInt8),0,1,0,0,false,0,false⟩:Record),(⟨1,2,2,([49]:List UInt8),([50]:List UInt8),0,1,0,0,false,0,false⟩:Record)]:List Record)⟩:Batch))),.r 2] rfl ⟨OpQ.g (q_buildP pl_34 hi34 hz34 rfl rfl),g_buildSliceN (n:=2) (rows:=([(⟨1,1,2,([49]:List UInt8),([50]:List UInt8),0,1,0,0,false,0,false⟩:Record),(⟨1,2,2,([49]:List UInt8),([50]:List UInt8),0,1,0,0,false,0,false⟩:Record)]:List Record).map Record.row) underlying23 hi49 hs49 hz49 rfl rfl rfl rfl rfl,OpQ.g (q_buildP pl_49 hi49 hz49 rfl rfl)⟩ ?_
 obtain ⟨y1,hy1,H⟩:=bind_some' H
 obtain ⟨y2,hy2,H⟩:=bind_some' H
 refine .orders2 13 9 10 [⟨[.row 49 [.d (cI 1),.d (cI 1),.d (cI 2),.d (cS ([49]:List UInt8)),.d (cS ([50]:List UInt8)),.d (cI 0),.d (cI 1),.d (cI 0),.d (cI 0),.d (cB false),.d (cI 0),.d (cB false)],.row 49 [.d (cI 1),.d (cI 2),.d (cI 2),.d (cS ([49]:List UInt8)),.d (cS ([50]:List UInt8)),.d (cI 0),.d (cI 1),.d (cI 0),.d (cI 0),.d (cB false),.d (cI 0),.d (cB false)],.row 34 [.d (cI 1),.d (cI 1),.d (cI 1),.d (slOf 12 Record.row ([(⟨1,1,2,([49]:List UInt8),([50]:List UInt8),0,1,0,0,false,0,false⟩:Record),(⟨1,2,2,([49]:List UInt8),([50]:List UInt8),0,1,0,0,false,0,false⟩:Record)]:List Record))]],[]⟩,⟨[.row 49 [.d (cI 1),.d (cI 1),.d (cI 2),.d (cS ([49]:List UInt8)),.d (cS ([50]:List UInt8)),.d (cI 0),.d (cI 1),.d (cI 0),.d (cI 0),.d (cB false),.d (cI 0),.d (cB false)],.row 49 [.d (cI 1),.d (cI 2),.d (cI 2),.d (cS ([49]:List UInt8)),.d (cS ([50]:List UInt8)),.d (cI 0),.d (cI 1),.d (cI 0),.d (cI 0),.d (cB false),.d (cI 0),.d (cB false)],.row 34 [.d (cI 1),.d (cI 1),.d (cI 1),.d (slOf 12 Record.row ([(⟨1,1,2,([49]:List UInt8),([50]:List UInt8),0,1,0,0,false,0,false⟩:Record),(⟨1,2,2,([49]:List UInt8),([50]:List UInt8),0,1,0,0,false,0,false⟩:Record)]:List Record))],.row 26 [.d (nilD),.d (nilD),.d (nilD)]],[]⟩,⟨[.row 49 [.d (cI 1),.d (cI 1),.d (cI 2),.d (cS ([49]:List UInt8)),.d (cS ([50]:List UInt8)),.d (cI 0),.d (cI 1),.d (cI 0),.d (cI 0),.d (cB false),.d (cI 0),.d (cB false)],.row 49 [.d (cI 1),.d (cI 2),.d (cI 2),.d (cS ([49]:List UInt8)),.d (cS ([50]:List UInt8)),.d (cI 0),.d (cI 1),.d (cI 0),.d (cI 0),.d (cB false),.d (cI 0),.d (cB false)],.row 34 [.d (cI 1),.d (cI 1),.d (cI 1),.d (slOf 12 Record.row ([(⟨1,1,2,([49]:List UInt8),([50]:List UInt8),0,1,0,0,false,0,false⟩:Record),(⟨1,2,2,([49]:List UInt8),([50]:List UInt8),0,1,0,0,false,0,false⟩:Record)]:List Record))],.row 26 [.d (slOf 3 Range.row y2.1.seen),.d (slOf 12 Record.row y2.1.open_),.d (slOf 4 Head.row y2.1.heads)]],[]⟩] hMix (by kernel_rfl) (by decide) (by decide) (by kernel_rfl) rfl ?_
 show XOps _ _ _ _ _ _ _ _ _ _ (_ :: _) _ _
 refine .g (x:=.d (.agg (Intake.row (⟨([]:List Range),([]:List Record),([]:List Head)⟩:Intake)))) 0 1 ⟨OpQ.g (OpQ.le (q_buildP pl_26 hi26 hz26 rfl rfl) (EVle.d (.agg ⟨.nil 3,.nil 12,.nil 4,trivial⟩))),OpQ.g (OpQ.le (q_buildP pl_26 hi26 hz26 rfl rfl) (EVle.d (.agg ⟨.nil 3,.nil 12,.nil 4,trivial⟩))),trivial⟩ rfl (by kernel_rfl) rfl ?_
 refine .g (x:=.d (.agg (Batch.row (⟨1,1,1,([(⟨1,1,2,([49]:List UInt8),([50]:List UInt8),0,1,0,0,false,0,false⟩:Record),(⟨1,2,2,([49]:List UInt8),([50]:List UInt8),0,1,0,0,false,0,false⟩:Record)]:List Record)⟩:Batch)))) 0 1 ⟨OpQ.g (q_loadOA one_34 sz_34 rfl rfl (Nat.le_of_ble_eq_true rfl) rfl),OpQ.g (q_loadOA one_34 sz_34 rfl rfl (Nat.le_of_ble_eq_true rfl) rfl),trivial⟩ rfl (by kernel_rfl) rfl ?_
 refine .g (x:=.d (.agg (Window.row y1))) 0 1 ⟨(g_call (en 54 rfl) rfl rfl (c_f_w16_always (hy1))),(g_call (en 54 rfl) rfl rfl (c_f_w16_always (hy1))),trivial⟩ rfl (by kernel_rfl) rfl ?_
 refine .g (x:=.d (.tup [.agg (Intake.row y2.1),slOf 12 Record.row y2.2.1,slOf 4 Reject.row y2.2.2.1,cI y2.2.2.2])) 0 1 ⟨(g_call (en 55 rfl) rfl rfl (c_f_intake_Accept (hy2))),(g_call (en 55 rfl) rfl rfl (c_f_intake_Accept (hy2))),trivial⟩ rfl (by kernel_rfl) rfl ?_
 refine .g (x:=.d (.tup [.agg (Intake.row y2.1),slOf 12 Record.row y2.2.1,slOf 4 Reject.row y2.2.2.1,cI y2.2.2.2])) 0 1 ⟨OpQ.g (q_move rfl),OpQ.g (q_move rfl),trivial⟩ rfl (by kernel_rfl) rfl ?_
 refine .g (x:=.d (.agg (Intake.row y2.1))) 0 1 ⟨OpQ.g (q_extract rfl rfl),OpQ.g (q_extract rfl rfl),trivial⟩ rfl (by kernel_rfl) rfl ?_
 refine .g (x:=.d (slOf 12 Record.row y2.2.1)) 0 2 ⟨OpQ.g (q_extract rfl rfl),OpQ.g (q_extract rfl rfl),OpQ.g (q_extract rfl rfl),trivial⟩ rfl (by kernel_rfl) rfl ?_
 refine .g (x:=.d (slOf 4 Reject.row y2.2.2.1)) 0 2 ⟨OpQ.g (q_extract rfl rfl),OpQ.g (q_extract rfl rfl),OpQ.g (q_extract rfl rfl),trivial⟩ rfl (by kernel_rfl) rfl ?_
 refine .g (x:=.d (cI y2.2.2.2)) 0 2 ⟨OpQ.g (q_extract rfl rfl),OpQ.g (q_extract rfl rfl),OpQ.g (q_extract rfl rfl),trivial⟩ rfl (by kernel_rfl) rfl ?_
 refine .v (x:=.ref 3 0) 0 (v_alloc zr_26 rfl) rfl rfl rfl rfl ?_
 refine .u 1 (u_store rfl rfl rfl rfl (Nat.le_of_ble_eq_true rfl) sz_26) rfl rfl rfl rfl ?_
 refine .g (x:=.d (slOf 12 Record.row y2.2.1)) 2 2 ⟨OpQ.g (q_assign rfl),trivial⟩ rfl (by kernel_rfl) rfl ?_
 refine .g (x:=.d (slOf 4 Reject.row y2.2.2.1)) 2 2 ⟨OpQ.g (q_assign rfl),trivial⟩ rfl (by kernel_rfl) rfl ?_
 refine .nil rfl ?_
 show AOps _ _ _ _ _ _ (_ :: _) _ _ _
 refine .A 3 [] rfl trivial ?_
 obtain ⟨y3,hy3,H⟩:=bind_some' H
 obtain ⟨y4,hy4,H⟩:=bind_some' H
 refine .orders2 13 9 10 [⟨[.row 49 [.d (cI 1),.d (cI 1),.d (cI 2),.d (cS ([49]:List UInt8)),.d (cS ([50]:List UInt8)),.d (cI 0),.d (cI 1),.d (cI 0),.d (cI 0),.d (cB false),.d (cI 0),.d (cB false)],.row 49 [.d (cI 1),.d (cI 2),.d (cI 2),.d (cS ([49]:List UInt8)),.d (cS ([50]:List UInt8)),.d (cI 0),.d (cI 1),.d (cI 0),.d (cI 0),.d (cB false),.d (cI 0),.d (cB false)],.row 34 [.d (cI 1),.d (cI 1),.d (cI 1),.d (slOf 12 Record.row ([(⟨1,1,2,([49]:List UInt8),([50]:List UInt8),0,1,0,0,false,0,false⟩:Record),(⟨1,2,2,([49]:List UInt8),([50]:List UInt8),0,1,0,0,false,0,false⟩:Record)]:List Record))],.row 26 [.d (slOf 3 Range.row y2.1.seen),.d (slOf 12 Record.row y2.1.open_),.d (slOf 4 Head.row y2.1.heads)]],[]⟩,⟨[.row 49 [.d (cI 1),.d (cI 1),.d (cI 2),.d (cS ([49]:List UInt8)),.d (cS ([50]:List UInt8)),.d (cI 0),.d (cI 1),.d (cI 0),.d (cI 0),.d (cB false),.d (cI 0),.d (cB false)],.row 49 [.d (cI 1),.d (cI 2),.d (cI 2),.d (cS ([49]:List UInt8)),.d (cS ([50]:List UInt8)),.d (cI 0),.d (cI 1),.d (cI 0),.d (cI 0),.d (cB false),.d (cI 0),.d (cB false)],.row 34 [.d (cI 1),.d (cI 1),.d (cI 1),.d (slOf 12 Record.row ([(⟨1,1,2,([49]:List UInt8),([50]:List UInt8),0,1,0,0,false,0,false⟩:Record),(⟨1,2,2,([49]:List UInt8),([50]:List UInt8),0,1,0,0,false,0,false⟩:Record)]:List Record))],.row 26 [.d (slOf 3 Range.row y2.1.seen),.d (slOf 12 Record.row y2.1.open_),.d (slOf 4 Head.row y2.1.heads)],.row 26 [.d (nilD),.d (nilD),.d (nilD)]],[]⟩,⟨[.row 49 [.d (cI 1),.d (cI 1),.d (cI 2),.d (cS ([49]:List UInt8)),.d (cS ([50]:List UInt8)),.d (cI 0),.d (cI 1),.d (cI 0),.d (cI 0),.d (cB false),.d (cI 0),.d (cB false)],.row 49 [.d (cI 1),.d (cI 2),.d (cI 2),.d (cS ([49]:List UInt8)),.d (cS ([50]:List UInt8)),.d (cI 0),.d (cI 1),.d (cI 0),.d (cI 0),.d (cB false),.d (cI 0),.d (cB false)],.row 34 [.d (cI 1),.d (cI 1),.d (cI 1),.d (slOf 12 Record.row ([(⟨1,1,2,([49]:List UInt8),([50]:List UInt8),0,1,0,0,false,0,false⟩:Record),(⟨1,2,2,([49]:List UInt8),([50]:List UInt8),0,1,0,0,false,0,false⟩:Record)]:List Record))],.row 26 [.d (slOf 3 Range.row y2.1.seen),.d (slOf 12 Record.row y2.1.open_),.d (slOf 4 Head.row y2.1.heads)],.row 26 [.d (slOf 3 Range.row y4.1.seen),.d (slOf 12 Record.row y4.1.open_),.d (slOf 4 Head.row y4.1.heads)]],[]⟩] hMix (by kernel_rfl) (by decide) (by decide) (by kernel_rfl) rfl ?_
 show XOps _ _ _ _ _ _ _ _ _ _ (_ :: _) _ _
 refine .g (x:=.d (.agg (Intake.row y2.1))) 0 1 ⟨OpQ.g (q_loadOA one_26 sz_26 rfl rfl (Nat.le_of_ble_eq_true rfl) rfl),OpQ.g (q_loadOA one_26 sz_26 rfl rfl (Nat.le_of_ble_eq_true rfl) rfl),trivial⟩ rfl (by kernel_rfl) rfl ?_
 refine .g (x:=.d (.agg (Batch.row (⟨1,1,1,([(⟨1,1,2,([49]:List UInt8),([50]:List UInt8),0,1,0,0,false,0,false⟩:Record),(⟨1,2,2,([49]:List UInt8),([50]:List UInt8),0,1,0,0,false,0,false⟩:Record)]:List Record)⟩:Batch)))) 0 1 ⟨OpQ.g (q_loadOA one_34 sz_34 rfl rfl (Nat.le_of_ble_eq_true rfl) rfl),OpQ.g (q_loadOA one_34 sz_34 rfl rfl (Nat.le_of_ble_eq_true rfl) rfl),trivial⟩ rfl (by kernel_rfl) rfl ?_
 refine .g (x:=.d (.agg (Window.row y3))) 0 1 ⟨(g_call (en 54 rfl) rfl rfl (c_f_w16_always (hy3))),(g_call (en 54 rfl) rfl rfl (c_f_w16_always (hy3))),trivial⟩ rfl (by kernel_rfl) rfl ?_
 refine .g (x:=.d (.tup [.agg (Intake.row y4.1),slOf 12 Record.row y4.2.1,slOf 4 Reject.row y4.2.2.1,cI y4.2.2.2])) 0 1 ⟨(g_call (en 55 rfl) rfl rfl (c_f_intake_Accept (hy4))),(g_call (en 55 rfl) rfl rfl (c_f_intake_Accept (hy4))),trivial⟩ rfl (by kernel_rfl) rfl ?_
 refine .g (x:=.d (.tup [.agg (Intake.row y4.1),slOf 12 Record.row y4.2.1,slOf 4 Reject.row y4.2.2.1,cI y4.2.2.2])) 0 1 ⟨OpQ.g (q_move rfl),OpQ.g (q_move rfl),trivial⟩ rfl (by kernel_rfl) rfl ?_
 refine .g (x:=.d (.agg (Intake.row y4.1))) 0 1 ⟨OpQ.g (q_extract rfl rfl),OpQ.g (q_extract rfl rfl),trivial⟩ rfl (by kernel_rfl) rfl ?_
 refine .g (x:=.d (slOf 12 Record.row y4.2.1)) 0 2 ⟨OpQ.g (q_extract rfl rfl),OpQ.g (q_extract rfl rfl),OpQ.g (q_extract rfl rfl),trivial⟩ rfl (by kernel_rfl) rfl ?_
 refine .g (x:=.d (slOf 4 Reject.row y4.2.2.1)) 0 2 ⟨OpQ.g (q_extract rfl rfl),OpQ.g (q_extract rfl rfl),OpQ.g (q_extract rfl rfl),trivial⟩ rfl (by kernel_rfl) rfl ?_
 refine .g (x:=.d (cI y4.2.2.2)) 0 2 ⟨OpQ.g (q_extract rfl rfl),OpQ.g (q_extract rfl rfl),OpQ.g (q_extract rfl rfl),trivial⟩ rfl (by kernel_rfl) rfl ?_
 refine .v (x:=.ref 4 0) 0 (v_alloc zr_26 rfl) rfl rfl rfl rfl ?_
 refine .u 1 (u_store rfl rfl rfl rfl (Nat.le_of_ble_eq_true rfl) sz_26) rfl rfl rfl rfl ?_
 refine .g (x:=.d (slOf 12 Record.row y4.2.1)) 2 2 ⟨OpQ.g (q_assign rfl),trivial⟩ rfl (by kernel_rfl) rfl ?_
 refine .g (x:=.d (slOf 4 Reject.row y4.2.2.1)) 2 2 ⟨OpQ.g (q_assign rfl),trivial⟩ rfl (by kernel_rfl) rfl ?_
 refine .nil rfl ?_
 show AOps _ _ _ _ _ _ (_ :: _) _ _ _
 refine .A 8 [] rfl trivial ?_
 obtain ⟨y5,hy5,H⟩:=bind_some' H
 obtain ⟨y6,hy6,H⟩:=bind_some' H
 refine .orders2 13 9 10 [⟨[.row 49 [.d (cI 1),.d (cI 1),.d (cI 2),.d (cS ([49]:List UInt8)),.d (cS ([50]:List UInt8)),.d (cI 0),.d (cI 1),.d (cI 0),.d (cI 0),.d (cB false),.d (cI 0),.d (cB false)],.row 49 [.d (cI 1),.d (cI 2),.d (cI 2),.d (cS ([49]:List UInt8)),.d (cS ([50]:List UInt8)),.d (cI 0),.d (cI 1),.d (cI 0),.d (cI 0),.d (cB false),.d (cI 0),.d (cB false)],.row 34 [.d (cI 1),.d (cI 2),.d (cI 1),.d (slOf 12 Record.row ([(⟨1,1,2,([49]:List UInt8),([50]:List UInt8),0,1,0,0,false,0,false⟩:Record),(⟨1,2,2,([49]:List UInt8),([50]:List UInt8),0,1,0,0,false,0,false⟩:Record)]:List Record))],.row 26 [.d (slOf 3 Range.row y2.1.seen),.d (slOf 12 Record.row y2.1.open_),.d (slOf 4 Head.row y2.1.heads)],.row 26 [.d (slOf 3 Range.row y4.1.seen),.d (slOf 12 Record.row y4.1.open_),.d (slOf 4 Head.row y4.1.heads)]],[]⟩,⟨[.row 49 [.d (cI 1),.d (cI 1),.d (cI 2),.d (cS ([49]:List UInt8)),.d (cS ([50]:List UInt8)),.d (cI 0),.d (cI 1),.d (cI 0),.d (cI 0),.d (cB false),.d (cI 0),.d (cB false)],.row 49 [.d (cI 1),.d (cI 2),.d (cI 2),.d (cS ([49]:List UInt8)),.d (cS ([50]:List UInt8)),.d (cI 0),.d (cI 1),.d (cI 0),.d (cI 0),.d (cB false),.d (cI 0),.d (cB false)],.row 34 [.d (cI 1),.d (cI 2),.d (cI 1),.d (slOf 12 Record.row ([(⟨1,1,2,([49]:List UInt8),([50]:List UInt8),0,1,0,0,false,0,false⟩:Record),(⟨1,2,2,([49]:List UInt8),([50]:List UInt8),0,1,0,0,false,0,false⟩:Record)]:List Record))],.row 26 [.d (slOf 3 Range.row y2.1.seen),.d (slOf 12 Record.row y2.1.open_),.d (slOf 4 Head.row y2.1.heads)],.row 26 [.d (slOf 3 Range.row y4.1.seen),.d (slOf 12 Record.row y4.1.open_),.d (slOf 4 Head.row y4.1.heads)],.row 26 [.d (nilD),.d (nilD),.d (nilD)]],[]⟩,⟨[.row 49 [.d (cI 1),.d (cI 1),.d (cI 2),.d (cS ([49]:List UInt8)),.d (cS ([50]:List UInt8)),.d (cI 0),.d (cI 1),.d (cI 0),.d (cI 0),.d (cB false),.d (cI 0),.d (cB false)],.row 49 [.d (cI 1),.d (cI 2),.d (cI 2),.d (cS ([49]:List UInt8)),.d (cS ([50]:List UInt8)),.d (cI 0),.d (cI 1),.d (cI 0),.d (cI 0),.d (cB false),.d (cI 0),.d (cB false)],.row 34 [.d (cI 1),.d (cI 2),.d (cI 1),.d (slOf 12 Record.row ([(⟨1,1,2,([49]:List UInt8),([50]:List UInt8),0,1,0,0,false,0,false⟩:Record),(⟨1,2,2,([49]:List UInt8),([50]:List UInt8),0,1,0,0,false,0,false⟩:Record)]:List Record))],.row 26 [.d (slOf 3 Range.row y2.1.seen),.d (slOf 12 Record.row y2.1.open_),.d (slOf 4 Head.row y2.1.heads)],.row 26 [.d (slOf 3 Range.row y4.1.seen),.d (slOf 12 Record.row y4.1.open_),.d (slOf 4 Head.row y4.1.heads)],.row 26 [.d (slOf 3 Range.row y6.1.seen),.d (slOf 12 Record.row y6.1.open_),.d (slOf 4 Head.row y6.1.heads)]],[]⟩] hMix (by kernel_rfl) (by decide) (by decide) (by kernel_rfl) rfl ?_
 show XOps _ _ _ _ _ _ _ _ _ _ (_ :: _) _ _
 refine .g (x:=.d (.agg (Intake.row (⟨([]:List Range),([]:List Record),([]:List Head)⟩:Intake)))) 0 1 ⟨OpQ.g (OpQ.le (q_buildP pl_26 hi26 hz26 rfl rfl) (EVle.d (.agg ⟨.nil 3,.nil 12,.nil 4,trivial⟩))),OpQ.g (OpQ.le (q_buildP pl_26 hi26 hz26 rfl rfl) (EVle.d (.agg ⟨.nil 3,.nil 12,.nil 4,trivial⟩))),trivial⟩ rfl (by kernel_rfl) rfl ?_
 refine .g (x:=.d (.agg (Batch.row (⟨1,2,1,([(⟨1,1,2,([49]:List UInt8),([50]:List UInt8),0,1,0,0,false,0,false⟩:Record),(⟨1,2,2,([49]:List UInt8),([50]:List UInt8),0,1,0,0,false,0,false⟩:Record)]:List Record)⟩:Batch)))) 0 1 ⟨OpQ.g (q_loadOA one_34 sz_34 rfl rfl (Nat.le_of_ble_eq_true rfl) rfl),OpQ.g (q_loadOA one_34 sz_34 rfl rfl (Nat.le_of_ble_eq_true rfl) rfl),trivial⟩ rfl (by kernel_rfl) rfl ?_
 refine .g (x:=.d (.agg (Window.row y5))) 0 1 ⟨(g_call (en 54 rfl) rfl rfl (c_f_w16_always (hy5))),(g_call (en 54 rfl) rfl rfl (c_f_w16_always (hy5))),trivial⟩ rfl (by kernel_rfl) rfl ?_
 refine .g (x:=.d (.tup [.agg (Intake.row y6.1),slOf 12 Record.row y6.2.1,slOf 4 Reject.row y6.2.2.1,cI y6.2.2.2])) 0 1 ⟨(g_call (en 55 rfl) rfl rfl (c_f_intake_Accept (hy6))),(g_call (en 55 rfl) rfl rfl (c_f_intake_Accept (hy6))),trivial⟩ rfl (by kernel_rfl) rfl ?_
 refine .g (x:=.d (.tup [.agg (Intake.row y6.1),slOf 12 Record.row y6.2.1,slOf 4 Reject.row y6.2.2.1,cI y6.2.2.2])) 0 1 ⟨OpQ.g (q_move rfl),OpQ.g (q_move rfl),trivial⟩ rfl (by kernel_rfl) rfl ?_
 refine .g (x:=.d (.agg (Intake.row y6.1))) 0 1 ⟨OpQ.g (q_extract rfl rfl),OpQ.g (q_extract rfl rfl),trivial⟩ rfl (by kernel_rfl) rfl ?_
 refine .g (x:=.d (slOf 12 Record.row y6.2.1)) 0 2 ⟨OpQ.g (q_extract rfl rfl),OpQ.g (q_extract rfl rfl),OpQ.g (q_extract rfl rfl),trivial⟩ rfl (by kernel_rfl) rfl ?_
 refine .g (x:=.d (slOf 4 Reject.row y6.2.2.1)) 0 2 ⟨OpQ.g (q_extract rfl rfl),OpQ.g (q_extract rfl rfl),OpQ.g (q_extract rfl rfl),trivial⟩ rfl (by kernel_rfl) rfl ?_
 refine .g (x:=.d (cI y6.2.2.2)) 0 2 ⟨OpQ.g (q_extract rfl rfl),OpQ.g (q_extract rfl rfl),OpQ.g (q_extract rfl rfl),trivial⟩ rfl (by kernel_rfl) rfl ?_
 refine .v (x:=.ref 5 0) 0 (v_alloc zr_26 rfl) rfl rfl rfl rfl ?_
 refine .u 1 (u_store rfl rfl rfl rfl (Nat.le_of_ble_eq_true rfl) sz_26) rfl rfl rfl rfl ?_
 refine .g (x:=.d (slOf 12 Record.row y6.2.1)) 2 2 ⟨OpQ.g (q_assign rfl),trivial⟩ rfl (by kernel_rfl) rfl ?_
 refine .g (x:=.d (slOf 4 Reject.row y6.2.2.1)) 2 2 ⟨OpQ.g (q_assign rfl),trivial⟩ rfl (by kernel_rfl) rfl ?_
 refine .nil rfl ?_
 show AOps _ _ _ _ _ _ (_ :: _) _ _ _
 refine .A 3 [] rfl trivial ?_
 obtain ⟨y7,hy7,H⟩:=bind_some' H
 obtain ⟨y8,hy8,H⟩:=bind_some' H
 refine .orders2 13 9 10 [⟨[.row 49 [.d (cI 1),.d (cI 1),.d (cI 2),.d (cS ([49]:List UInt8)),.d (cS ([50]:List UInt8)),.d (cI 0),.d (cI 1),.d (cI 0),.d (cI 0),.d (cB false),.d (cI 0),.d (cB false)],.row 49 [.d (cI 1),.d (cI 2),.d (cI 2),.d (cS ([49]:List UInt8)),.d (cS ([50]:List UInt8)),.d (cI 0),.d (cI 1),.d (cI 0),.d (cI 0),.d (cB false),.d (cI 0),.d (cB false)],.row 34 [.d (cI 1),.d (cI 2),.d (cI 1),.d (slOf 12 Record.row ([(⟨1,1,2,([49]:List UInt8),([50]:List UInt8),0,1,0,0,false,0,false⟩:Record),(⟨1,2,2,([49]:List UInt8),([50]:List UInt8),0,1,0,0,false,0,false⟩:Record)]:List Record))],.row 26 [.d (slOf 3 Range.row y2.1.seen),.d (slOf 12 Record.row y2.1.open_),.d (slOf 4 Head.row y2.1.heads)],.row 26 [.d (slOf 3 Range.row y4.1.seen),.d (slOf 12 Record.row y4.1.open_),.d (slOf 4 Head.row y4.1.heads)],.row 26 [.d (slOf 3 Range.row y6.1.seen),.d (slOf 12 Record.row y6.1.open_),.d (slOf 4 Head.row y6.1.heads)]],[]⟩,⟨[.row 49 [.d (cI 1),.d (cI 1),.d (cI 2),.d (cS ([49]:List UInt8)),.d (cS ([50]:List UInt8)),.d (cI 0),.d (cI 1),.d (cI 0),.d (cI 0),.d (cB false),.d (cI 0),.d (cB false)],.row 49 [.d (cI 1),.d (cI 2),.d (cI 2),.d (cS ([49]:List UInt8)),.d (cS ([50]:List UInt8)),.d (cI 0),.d (cI 1),.d (cI 0),.d (cI 0),.d (cB false),.d (cI 0),.d (cB false)],.row 34 [.d (cI 1),.d (cI 2),.d (cI 1),.d (slOf 12 Record.row ([(⟨1,1,2,([49]:List UInt8),([50]:List UInt8),0,1,0,0,false,0,false⟩:Record),(⟨1,2,2,([49]:List UInt8),([50]:List UInt8),0,1,0,0,false,0,false⟩:Record)]:List Record))],.row 26 [.d (slOf 3 Range.row y2.1.seen),.d (slOf 12 Record.row y2.1.open_),.d (slOf 4 Head.row y2.1.heads)],.row 26 [.d (slOf 3 Range.row y4.1.seen),.d (slOf 12 Record.row y4.1.open_),.d (slOf 4 Head.row y4.1.heads)],.row 26 [.d (slOf 3 Range.row y6.1.seen),.d (slOf 12 Record.row y6.1.open_),.d (slOf 4 Head.row y6.1.heads)],.row 26 [.d (nilD),.d (nilD),.d (nilD)]],[]⟩,⟨[.row 49 [.d (cI 1),.d (cI 1),.d (cI 2),.d (cS ([49]:List UInt8)),.d (cS ([50]:List UInt8)),.d (cI 0),.d (cI 1),.d (cI 0),.d (cI 0),.d (cB false),.d (cI 0),.d (cB false)],.row 49 [.d (cI 1),.d (cI 2),.d (cI 2),.d (cS ([49]:List UInt8)),.d (cS ([50]:List UInt8)),.d (cI 0),.d (cI 1),.d (cI 0),.d (cI 0),.d (cB false),.d (cI 0),.d (cB false)],.row 34 [.d (cI 1),.d (cI 2),.d (cI 1),.d (slOf 12 Record.row ([(⟨1,1,2,([49]:List UInt8),([50]:List UInt8),0,1,0,0,false,0,false⟩:Record),(⟨1,2,2,([49]:List UInt8),([50]:List UInt8),0,1,0,0,false,0,false⟩:Record)]:List Record))],.row 26 [.d (slOf 3 Range.row y2.1.seen),.d (slOf 12 Record.row y2.1.open_),.d (slOf 4 Head.row y2.1.heads)],.row 26 [.d (slOf 3 Range.row y4.1.seen),.d (slOf 12 Record.row y4.1.open_),.d (slOf 4 Head.row y4.1.heads)],.row 26 [.d (slOf 3 Range.row y6.1.seen),.d (slOf 12 Record.row y6.1.open_),.d (slOf 4 Head.row y6.1.heads)],.row 26 [.d (slOf 3 Range.row y8.1.seen),.d (slOf 12 Record.row y8.1.open_),.d (slOf 4 Head.row y8.1.heads)]],[]⟩] hMix (by kernel_rfl) (by decide) (by decide) (by kernel_rfl) rfl ?_
 show XOps _ _ _ _ _ _ _ _ _ _ (_ :: _) _ _
 refine .g (x:=.d (.agg (Intake.row y2.1))) 0 1 ⟨OpQ.g (q_loadOA one_26 sz_26 rfl rfl (Nat.le_of_ble_eq_true rfl) rfl),OpQ.g (q_loadOA one_26 sz_26 rfl rfl (Nat.le_of_ble_eq_true rfl) rfl),trivial⟩ rfl (by kernel_rfl) rfl ?_
 refine .g (x:=.d (.agg (Batch.row (⟨1,2,1,([(⟨1,1,2,([49]:List UInt8),([50]:List UInt8),0,1,0,0,false,0,false⟩:Record),(⟨1,2,2,([49]:List UInt8),([50]:List UInt8),0,1,0,0,false,0,false⟩:Record)]:List Record)⟩:Batch)))) 0 1 ⟨OpQ.g (q_loadOA one_34 sz_34 rfl rfl (Nat.le_of_ble_eq_true rfl) rfl),OpQ.g (q_loadOA one_34 sz_34 rfl rfl (Nat.le_of_ble_eq_true rfl) rfl),trivial⟩ rfl (by kernel_rfl) rfl ?_
 refine .g (x:=.d (.agg (Window.row y7))) 0 1 ⟨(g_call (en 54 rfl) rfl rfl (c_f_w16_always (hy7))),(g_call (en 54 rfl) rfl rfl (c_f_w16_always (hy7))),trivial⟩ rfl (by kernel_rfl) rfl ?_
 refine .g (x:=.d (.tup [.agg (Intake.row y8.1),slOf 12 Record.row y8.2.1,slOf 4 Reject.row y8.2.2.1,cI y8.2.2.2])) 0 1 ⟨(g_call (en 55 rfl) rfl rfl (c_f_intake_Accept (hy8))),(g_call (en 55 rfl) rfl rfl (c_f_intake_Accept (hy8))),trivial⟩ rfl (by kernel_rfl) rfl ?_
 refine .g (x:=.d (.tup [.agg (Intake.row y8.1),slOf 12 Record.row y8.2.1,slOf 4 Reject.row y8.2.2.1,cI y8.2.2.2])) 0 1 ⟨OpQ.g (q_move rfl),OpQ.g (q_move rfl),trivial⟩ rfl (by kernel_rfl) rfl ?_
 refine .g (x:=.d (.agg (Intake.row y8.1))) 0 1 ⟨OpQ.g (q_extract rfl rfl),OpQ.g (q_extract rfl rfl),trivial⟩ rfl (by kernel_rfl) rfl ?_
 refine .g (x:=.d (slOf 12 Record.row y8.2.1)) 0 2 ⟨OpQ.g (q_extract rfl rfl),OpQ.g (q_extract rfl rfl),OpQ.g (q_extract rfl rfl),trivial⟩ rfl (by kernel_rfl) rfl ?_
 refine .g (x:=.d (slOf 4 Reject.row y8.2.2.1)) 0 2 ⟨OpQ.g (q_extract rfl rfl),OpQ.g (q_extract rfl rfl),OpQ.g (q_extract rfl rfl),trivial⟩ rfl (by kernel_rfl) rfl ?_
 refine .g (x:=.d (cI y8.2.2.2)) 0 2 ⟨OpQ.g (q_extract rfl rfl),OpQ.g (q_extract rfl rfl),OpQ.g (q_extract rfl rfl),trivial⟩ rfl (by kernel_rfl) rfl ?_
 refine .v (x:=.ref 6 0) 0 (v_alloc zr_26 rfl) rfl rfl rfl rfl ?_
 refine .u 1 (u_store rfl rfl rfl rfl (Nat.le_of_ble_eq_true rfl) sz_26) rfl rfl rfl rfl ?_
 refine .g (x:=.d (slOf 12 Record.row y8.2.1)) 2 2 ⟨OpQ.g (q_assign rfl),trivial⟩ rfl (by kernel_rfl) rfl ?_
 refine .g (x:=.d (slOf 4 Reject.row y8.2.2.1)) 2 2 ⟨OpQ.g (q_assign rfl),trivial⟩ rfl (by kernel_rfl) rfl ?_
 refine .nil rfl ?_
 show AOps _ _ _ _ _ _ (_ :: _) _ _ _
 refine .A 40 [.i (y2.2.1.length:Int),.i (y2.2.2.1.length:Int),.i (y8.2.1.length:Int),.i (y8.2.2.1.length:Int)] rfl ⟨rfl,rfl,fun hg=>s38.n rfl rfl,rfl,rfl,rfl,fun hg=>s23.n rfl rfl,rfl,rfl,rfl,fun hg=>s38.n rfl rfl,rfl,rfl,rfl,fun hg=>s23.n rfl rfl,rfl,rfl,rfl,rfl,rfl,rfl,rfl⟩ ?_
 refine .ite H rfl (fun H=>?_) (fun H=>?_)
 ·refine .A 4 [] rfl trivial ?_
  refine .R func10 results10 rfl ?_
  cases H
  exact .m rfl (.rfl' _)
 ·obtain ⟨y9,hy9,H⟩:=bind_some' H
  obtain ⟨y10,hy10,H⟩:=bind_some' H
  obtain ⟨y11,hy11,H⟩:=bind_some' H
  obtain ⟨hk1,H⟩:=ck_some H
  refine .A 24 [.i y9,.i y10,.b y11,.d (.ro (Reject.row (nth y8.2.2.1 (Int.toNat (1))))),.d (.agg (Reject.row (⟨1,2,1,13⟩:Reject))),.b (eqVs (Reject.vals (nth y8.2.2.1 (Int.toNat (1)))) (Reject.vals (⟨1,2,1,13⟩:Reject)))] rfl ⟨rfl,fun hg=>OpQ.g (q_steql fk_47 rfl rfl (xs:=Reject.vals (nth y8.2.2.1 (Int.toNat (1)))) (ys:=Reject.vals (⟨1,2,1,13⟩:Reject)) rfl rfl rfl rfl),rfl,rfl,fun hg=>OpQ.g (q_buildP pl_47 hi47 hz47 rfl rfl),rfl,fun hg=>s38.ix rfl rfl rfl (hk1 hg),rfl,rfl,fun hg=>g_call (en 56 rfl) rfl rfl (c_f_intake_Check (gcall_some hy11 hg)),rfl,rfl,rfl,fun hg=>g_call (en 44 rfl) rfl rfl (c_f_intake_Next (gcall_some hy10 hg)),rfl,g_call (en 44 rfl) rfl rfl (c_f_intake_Next (hy9))⟩ ?_
  refine .R func10 results10 rfl ?_
  cases H
  exact .m rfl (.rfl' _)
theorem c_f_r16_next {v0heads:List Head} {v1n:Int} {v2source:Int} {r:Int} (H:f_r16_next v0heads v1n v2source=some r):ACall prog 34 [slOf 4 Head.row v0heads,cI v1n,cI v2source] (·=cI r):=by
 refine ACall.enter' func34 rfl ntmps34 rfl fun S hS=>?_
 unfold f_r16_next at H
 refine .A 14 [] rfl trivial ?_
 obtain ⟨n1,H⟩:=loop_some H
 refine .loop (ι:=Nat×(Int×Int)) (fun ⟨_,v7kl1,v8il1⟩=>[(0,.d (slOf 4 Head.row v0heads)),(1,.d (cI v1n)),(2,.d (cI v2source)),(7,.d (cI v7kl1)),(8,.d (cI v8il1))]) (fun ⟨_,v7kl1,v8il1⟩=>⟨[],[]⟩) (fun p=>iter (fun s=>f_r16_next_l1 v0heads v1n v2source s.1 s.2) p.1 p.2=some r) (·.1) (n1,(1,0)) H (.cons rfl (.rfl' _) (.cons rfl (.rfl' _) (.cons rfl (.rfl' _) (.cons rfl (.rfl' _) (.cons rfl (.rfl' _) (.nil)))))) rfl ?_
 rintro ⟨m1,v7kl1,v8il1⟩ HI ih1
 obtain ⟨n1,q1,hm1,H,HK1⟩:=iter_succ HI
 clear HI
 replace H:f_r16_next_l1 v0heads v1n v2source v7kl1 v8il1=some q1:=H
 unfold f_r16_next_l1 at H
 refine .A 7 [] rfl trivial ?_
 refine .ite H rfl (fun H=>?_) (fun H=>?_)
 ·obtain ⟨hk1,H⟩:=ck_some H
  refine .A 13 [.d (.ro (Head.row (nth v0heads v8il1.toNat)))] rfl (s24.ix rfl rfl rfl hk1) ?_
  refine .ite H rfl (fun H=>?_) (fun H=>?_)
  ·obtain ⟨hk2,H⟩:=ck_some H
   obtain ⟨hk3,H⟩:=ck_some H
   obtain ⟨hk4,H⟩:=ck_some H
   refine .A 15 [.d (.ro (Head.row (nth v0heads v8il1.toNat))),.i (((nth v0heads v8il1.toNat).number)+1),.i (v8il1+1)] rfl ⟨g_addI rfl rfl hk4,g_addI rfl rfl hk3,s24.ix rfl rfl rfl hk2⟩ ?_
   cases H
   exact .z (ih1 (n1,(((nth v0heads v8il1.toNat).number)+1,v8il1+1)) HK1 hm1) rfl rfl
  ·obtain ⟨hk5,H⟩:=ck_some H
   refine .A 7 [.i (v8il1+1)] rfl (g_addI rfl rfl hk5) ?_
   cases H
   exact .z (ih1 (n1,(v7kl1,v8il1+1)) HK1 hm1) rfl rfl
 ·refine .A 6 [] rfl trivial ?_
  refine .R func34 results34 rfl ?_
  cases H
  cases HK1
  exact .m rfl (.rfl' _)
theorem c_f_r16_heads {v0:Intake} {r:Bool} (H:f_r16_heads v0=some r):ACall prog 29 [.agg (Intake.row v0)] (·=cB r):=by
 refine ACall.enter' func29 rfl ntmps29 rfl fun S hS=>?_
 unfold f_r16_heads at H
 refine .A 11 [.r 0] rfl trivial ?_
 obtain ⟨n1,H⟩:=loop_some H
 refine .loop (ι:=Nat×(Int)) (fun ⟨_,v3l1⟩=>[(1,.ref 0 0),(3,.d (cI v3l1))]) (fun ⟨_,v3l1⟩=>⟨[.row 26 [.d (slOf 3 Range.row v0.seen),.d (slOf 12 Record.row v0.open_),.d (slOf 4 Head.row v0.heads)]],[]⟩) (fun p=>iter (fun s=>f_r16_heads_l1 v0 s) p.1 p.2=some r) (·.1) (n1,0) H (.cons rfl (.rfl' _) (.cons rfl (.rfl' _) (.nil))) rfl ?_
 rintro ⟨m1,v3l1⟩ HI ih1
 obtain ⟨n1,q1,hm1,H,HK1⟩:=iter_succ HI
 clear HI
 replace H:f_r16_heads_l1 v0 v3l1=some q1:=H
 unfold f_r16_heads_l1 at H
 refine .A 9 [.i (v0.heads.length:Int)] rfl (s24.n rfl rfl) ?_
 refine .ite H rfl (fun H=>?_) (fun H=>?_)
 ·obtain ⟨hk1,H⟩:=ck_some H
  obtain ⟨y1,hy1,H⟩:=bind_some' H
  refine .A 66 [.d (.ro (Head.row (nth v0.heads v3l1.toNat))),.r 1,.p 49,.i y1] rfl ⟨rfl,rfl,rfl,rfl,rfl,rfl,rfl,rfl,rfl,rfl,rfl,rfl,rfl,rfl,rfl,fun hg=>g_call (en 57 rfl) rfl rfl (c_f_r16_next (gcall_some hy1 hg)),rfl,rfl,rfl,rfl,rfl,rfl,rfl,rfl,rfl,rfl,rfl,rfl,rfl,rfl,rfl,(show drawB _ _=true by kernel_rfl),s24.ix rfl rfl rfl hk1⟩ ?_
  refine .ite H rfl (fun H=>?_) (fun H=>?_)
  ·refine .A 4 [] rfl trivial ?_
   refine .R func29 results29 rfl ?_
   cases H
   cases HK1
   exact .m rfl (.rfl' _)
  ·obtain ⟨hk2,H⟩:=ck_some H
   refine .A 7 [.i (v3l1+1)] rfl (g_addI rfl rfl hk2) ?_
   cases H
   exact .t 1 0 (ih1 (n1,(v3l1+1)) HK1 hm1) rfl rfl rfl rfl rfl hS rfl
 ·refine .A 5 [] rfl trivial ?_
  refine .R func29 results29 rfl ?_
  cases H
  cases HK1
  exact .m rfl (.rfl' _)
theorem c_f_r14_identity {v0source:Int} {v1serial:Int} {r:Bool} (H:f_r14_identity v0source v1serial=some r):ACall prog 56 [cI v0source,cI v1serial] (·=cB r):=by
 refine ACall.enter' func56 rfl ntmps56 rfl fun S hS=>?_
 unfold f_r14_identity at H
 refine .A 22 [] rfl ⟨rfl,rfl,rfl,rfl,rfl,rfl⟩ ?_
 refine .R func56 results56 rfl ?_
 cases H
 exact .m rfl (.rfl' _)
theorem c_f_r14_Check {v0:List Range} {r:Bool} (H:f_r14_Check v0=some r):ACall prog 30 [slOf 3 Range.row v0] (·=cB r):=by
 refine ACall.enter' func30 rfl ntmps30 rfl fun S hS=>?_
 unfold f_r14_Check at H
 refine .A 10 [] rfl trivial ?_
 obtain ⟨n1,H⟩:=loop_some H
 refine .loop (ι:=Nat×(Int)) (fun ⟨_,v3l1⟩=>[(0,.d (slOf 3 Range.row v0)),(3,.d (cI v3l1))]) (fun ⟨_,v3l1⟩=>⟨[],[]⟩) (fun p=>iter (fun s=>f_r14_Check_l1 v0 s) p.1 p.2=some r) (·.1) (n1,0) H (.cons rfl (.rfl' _) (.cons rfl (.rfl' _) (.nil))) rfl ?_
 rintro ⟨m1,v3l1⟩ HI ih1
 obtain ⟨n1,q1,hm1,H,HK1⟩:=iter_succ HI
 clear HI
 replace H:f_r14_Check_l1 v0 v3l1=some q1:=H
 unfold f_r14_Check_l1 at H
 refine .A 8 [.i (v0.length:Int)] rfl (s22.n rfl rfl) ?_
 refine .ite H rfl (fun H=>?_) (fun H=>?_)
 ·obtain ⟨hk1,H⟩:=ck_some H
  obtain ⟨y1,hy1,H⟩:=bind_some' H
  obtain ⟨y2,hy2,H⟩:=bind_some' H
  refine .A 37 [.d (.ro (Range.row (nth v0 v3l1.toNat))),.r 0,.b y1,.b y2] rfl ⟨rfl,rfl,rfl,rfl,rfl,rfl,rfl,fun hg=>g_call (en 58 rfl) rfl rfl (c_f_r14_identity (gcall_some hy2 hg)),rfl,rfl,rfl,rfl,g_call (en 58 rfl) rfl rfl (c_f_r14_identity (hy1)),s22.ix rfl rfl rfl hk1⟩ ?_
  refine .ite H rfl (fun H=>?_) (fun H=>?_)
  ·refine .A 4 [] rfl trivial ?_
   refine .R func30 results30 rfl ?_
   cases H
   cases HK1
   exact .m rfl (.rfl' _)
  ·obtain ⟨hk2,H⟩:=ck_some H
   obtain ⟨hk3,H⟩:=ck_some H
   obtain ⟨hk4,H⟩:=ck_some H
   obtain ⟨hk5,H⟩:=ck_some H
   obtain ⟨hk6,H⟩:=ck_some H
   obtain ⟨hk7,H⟩:=ck_some H
   obtain ⟨hk8,H⟩:=ck_some H
   refine .C 36 [.p 36,.i (v3l1-1),.d (.ro (Range.row (nth v0 (v3l1-1).toNat))),.i (v3l1-1),.d (.ro (Range.row (nth v0 (v3l1-1).toNat))),.i (v3l1-1),.d (.ro (Range.row (nth v0 (v3l1-1).toNat))),.i (((nth v0 (v3l1-1).toNat).to_)+1)] rfl ⟨rfl,rfl,rfl,fun hg=>g_addI rfl rfl (hk8 hg),rfl,rfl,rfl,fun hg=>s22.ix rfl rfl rfl (hk7 hg),rfl,rfl,fun hg=>g_subI rfl rfl (hk6 hg),rfl,rfl,rfl,rfl,rfl,rfl,rfl,fun hg=>s22.ix rfl rfl rfl (hk5 hg),rfl,rfl,fun hg=>g_subI rfl rfl (hk4 hg),rfl,rfl,rfl,rfl,rfl,rfl,rfl,fun hg=>s22.ix rfl rfl rfl (hk3 hg),rfl,rfl,fun hg=>g_subI rfl rfl (hk2 hg),rfl,(show drawB _ _=true by kernel_rfl)⟩ ?_
   refine .guardG (env':=[(58,_),(68,_)]) rfl rfl rfl ⟨.inr (.inl rfl),⟨.inr (.inr ⟨_,_,rfl,rfl⟩),trivial⟩⟩ rfl (fun hg=>OpQ.g (q_pickAndB rfl rfl rfl)) ?_
   refine .guardG (env':=[(48,_),(69,_)]) rfl rfl rfl ⟨.inr (.inl rfl),⟨.inr (.inr ⟨_,_,rfl,rfl⟩),trivial⟩⟩ rfl (fun hg=>OpQ.g (q_pickOrB rfl rfl rfl)) ?_
   refine .A 3 [] rfl rfl ?_
   refine .ite H rfl (fun H=>?_) (fun H=>?_)
   ·refine .A 4 [] rfl trivial ?_
    refine .R func30 results30 rfl ?_
    cases H
    cases HK1
    exact .m rfl (.rfl' _)
   ·obtain ⟨hk9,H⟩:=ck_some H
    refine .A 7 [.i (v3l1+1)] rfl (g_addI rfl rfl hk9) ?_
    cases H
    exact .t 0 0 (ih1 (n1,(v3l1+1)) HK1 hm1) rfl rfl rfl rfl rfl hS rfl
 ·refine .A 5 [] rfl trivial ?_
  refine .R func30 results30 rfl ?_
  cases H
  cases HK1
  exact .m rfl (.rfl' _)
theorem c_f_r09_in {v0n:Int} {v1low:Int} {v2high:Int} {r:Bool} (H:f_r09_in v0n v1low v2high=some r):ACall prog 115 [cI v0n,cI v1low,cI v2high] (·=cB r):=by
 refine ACall.enter' func115 rfl ntmps115 rfl fun S hS=>?_
 unfold f_r09_in at H
 refine .A 16 [] rfl ⟨rfl,rfl,rfl⟩ ?_
 refine .R func115 results115 rfl ?_
 cases H
 exact .m rfl (.rfl' _)
theorem c_f_r02_Valid {v0s:List UInt8} {r:Bool} (H:f_r02_Valid v0s=some r):ACall prog 116 [cS v0s] (·=cB r):=by
 refine ACall.enter' func116 rfl ntmps116 rfl fun S hS=>?_
 unfold f_r02_Valid at H
 refine .A 9 [] rfl trivial ?_
 refine .blockJoin2 (ι:=Unit) (fun _=>[(0,.d (cS v0s))]) (fun _=>⟨[],[]⟩) (fun s=>f_r02_Valid_j1 v0s=some r) ?_ ?_
 ·rintro _ H
  replace H:f_r02_Valid_j1 v0s=some r:=H
  unfold f_r02_Valid_j1 at H
  refine .A 12 [.i (v0s.length:Int),.i (v0s.length:Int)] rfl ⟨rfl,rfl,fun hg=>OpQ.g (q_lenS underlying9 rfl),rfl,OpQ.g (q_lenS underlying9 rfl)⟩ ?_
  refine .R func116 results116 rfl ?_
  cases H
  exact .m rfl (.rfl' _)
 ·intro hj1 hj1x
  obtain ⟨n1,H⟩:=loop_some H
  refine .loop (ι:=Nat×(Int)) (fun ⟨_,v3il1⟩=>[(0,.d (cS v0s)),(3,.d (cI v3il1))]) (fun ⟨_,v3il1⟩=>⟨[],[]⟩) (fun p=>iter (fun s=>f_r02_Valid_l1 v0s s) p.1 p.2=some r) (·.1) (n1,0) H (.cons rfl (.rfl' _) (.cons rfl (.rfl' _) (.nil))) rfl ?_
  rintro ⟨m1,v3il1⟩ HI ih1
  obtain ⟨n1,q1,hm1,H,HK1⟩:=iter_succ HI
  clear HI
  replace H:f_r02_Valid_l1 v0s v3il1=some q1:=H
  unfold f_r02_Valid_l1 at H
  refine .A 8 [.i (v0s.length:Int)] rfl (OpQ.g (q_lenS underlying9 rfl)) ?_
  refine .ite H rfl (fun H=>?_) (fun H=>?_)
  ·obtain ⟨hk1,H⟩:=ck_some H
   obtain ⟨hk2,H⟩:=ck_some H
   refine .A 16 [.c (nth v0s v3il1.toNat),.b (decide ((nth v0s v3il1.toNat) < 48)),.c (nth v0s v3il1.toNat),.b (decide ((nth v0s v3il1.toNat) > 57))] rfl ⟨rfl,fun hg=>OpQ.g (q8_gtr (a:=nth v0s v3il1.toNat) (b:=57) rfl rfl),rfl,fun hg=>OpQ.g (q_indexL (i:=v3il1) underlying9 rfl rfl (hk2 hg)),rfl,rfl,OpQ.g (q8_lss (a:=nth v0s v3il1.toNat) (b:=48) rfl rfl),OpQ.g (q_indexL (i:=v3il1) underlying9 rfl rfl hk1)⟩ ?_
   refine .ite H rfl (fun H=>?_) (fun H=>?_)
   ·refine .A 4 [] rfl trivial ?_
    refine .R func116 results116 rfl ?_
    cases H
    cases HK1
    exact .m rfl (.rfl' _)
   ·obtain ⟨hk3,H⟩:=ck_some H
    refine .A 7 [.i (v3il1+1)] rfl (g_addI rfl rfl hk3) ?_
    cases H
    exact .z (ih1 (n1,(v3il1+1)) HK1 hm1) rfl rfl
  ·refine .A 1 [] rfl trivial ?_
   obtain ⟨q0,H9,hq0⟩:=map_some' H; clear H; cases hq0
   cases HK1
   have H:=H9
   exact .z (hj1x () H) rfl rfl
set_option maxRecDepth 100000
set_option maxHeartbeats 1000000
theorem c_f_r09_Error {v0:Record} {r:Int} (H:f_r09_Error v0=some r):ACall prog 79 [.agg (Record.row v0)] (·=cI r):=by
 refine ACall.enter' func79 rfl ntmps79 rfl fun S hS=>?_
 unfold f_r09_Error at H
 obtain ⟨y1,hy1,H⟩:=bind_some' H
 obtain ⟨y2,hy2,H⟩:=bind_some' H
 refine .A 21 [.r 0,.b y1,.b y2] rfl ⟨rfl,rfl,fun hg=>g_call (en 59 rfl) rfl rfl (c_f_r09_in (gcall_some hy2 hg)),rfl,rfl,g_call (en 59 rfl) rfl rfl (c_f_r09_in (hy1))⟩ ?_
 refine .ite H rfl (fun H=>?_) (fun H=>?_)
 ·refine .A 4 [] rfl trivial ?_
  refine .R func79 results79 rfl ?_
  cases H
  exact .m rfl (.rfl' _)
 ·obtain ⟨y3,hy3,H⟩:=bind_some' H
  refine .A 8 [.b y3] rfl (g_call (en 59 rfl) rfl rfl (c_f_r09_in (hy3))) ?_
  refine .ite H rfl (fun H=>?_) (fun H=>?_)
  ·refine .A 4 [] rfl trivial ?_
   refine .R func79 results79 rfl ?_
   cases H
   exact .m rfl (.rfl' _)
  ·obtain ⟨y4,hy4,H⟩:=bind_some' H
   refine .A 8 [.b y4] rfl (g_call (en 60 rfl) rfl rfl (c_f_r02_Valid (hy4))) ?_
   refine .ite H rfl (fun H=>?_) (fun H=>?_)
   ·refine .A 4 [] rfl trivial ?_
    refine .R func79 results79 rfl ?_
    cases H
    exact .m rfl (.rfl' _)
   ·obtain ⟨y5,hy5,H⟩:=bind_some' H
    refine .B 18 [.b y5] rfl ⟨rfl,rfl,rfl,rfl,rfl,rfl,rfl,rfl,g_call (en 60 rfl) rfl rfl (c_f_r02_Valid (hy5))⟩ ?_
    refine .guardG (env':=[(37,_),(40,_)]) rfl rfl rfl ⟨.inr (.inl rfl),⟨.inr (.inr ⟨_,_,rfl,rfl⟩),trivial⟩⟩ rfl (fun hg=>OpQ.g (q_pickAndB rfl rfl rfl)) ?_
    refine .guardG (env':=[(33,_),(41,_)]) rfl rfl rfl ⟨.inr (.inl rfl),⟨.inr (.inr ⟨_,_,rfl,rfl⟩),trivial⟩⟩ rfl (fun hg=>OpQ.g (q_pickOrB rfl rfl rfl)) ?_
    refine .A 3 [] rfl rfl ?_
    refine .ite H rfl (fun H=>?_) (fun H=>?_)
    ·refine .A 4 [] rfl trivial ?_
     refine .R func79 results79 rfl ?_
     cases H
     exact .m rfl (.rfl' _)
    ·obtain ⟨y6,hy6,H⟩:=bind_some' H
     refine .A 8 [.b y6] rfl (g_call (en 59 rfl) rfl rfl (c_f_r09_in (hy6))) ?_
     refine .ite H rfl (fun H=>?_) (fun H=>?_)
     ·refine .A 4 [] rfl trivial ?_
      refine .R func79 results79 rfl ?_
      cases H
      exact .m rfl (.rfl' _)
     ·obtain ⟨y7,hy7,H⟩:=bind_some' H
      refine .B 14 [.b y7] rfl ⟨rfl,rfl,rfl,rfl,rfl,g_call (en 59 rfl) rfl rfl (c_f_r09_in (hy7))⟩ ?_
      refine .guardG (env':=[(58,_),(61,_)]) rfl rfl rfl ⟨.inr (.inl rfl),⟨.inr (.inr ⟨_,_,rfl,rfl⟩),trivial⟩⟩ rfl (fun hg=>OpQ.g (q_pickAndB rfl rfl rfl)) ?_
      refine .A 3 [] rfl rfl ?_
      refine .ite H rfl (fun H=>?_) (fun H=>?_)
      ·refine .A 4 [] rfl trivial ?_
       refine .R func79 results79 rfl ?_
       cases H
       exact .m rfl (.rfl' _)
      ·obtain ⟨hk1,H⟩:=ck_some H
       refine .A 15 [.i (v0.start+v0.units)] rfl ⟨rfl,rfl,fun hg=>g_addI rfl rfl (hk1 hg),rfl,rfl,rfl,rfl⟩ ?_
       refine .ite H rfl (fun H=>?_) (fun H=>?_)
       ·refine .A 4 [] rfl trivial ?_
        refine .R func79 results79 rfl ?_
        cases H
        exact .m rfl (.rfl' _)
       ·obtain ⟨y8,hy8,H⟩:=bind_some' H
        obtain ⟨y9,hy9,H⟩:=bind_some' H
        refine .A 14 [.b y8,.b y9] rfl ⟨rfl,rfl,fun hg=>g_call (en 59 rfl) rfl rfl (c_f_r09_in (gcall_some hy9 hg)),rfl,rfl,g_call (en 59 rfl) rfl rfl (c_f_r09_in (hy8))⟩ ?_
        refine .ite H rfl (fun H=>?_) (fun H=>?_)
        ·refine .A 4 [] rfl trivial ?_
         refine .R func79 results79 rfl ?_
         cases H
         exact .m rfl (.rfl' _)
        ·refine .B 16 [.b ((v0.part==0) != (v0.call==0))] rfl ⟨rfl,rfl,rfl,rfl,OpQ.g (q_bneq rfl underlying4 rfl)⟩ ?_
         refine .guardG (env':=[(98,_),(101,_)]) rfl rfl rfl ⟨.inr (.inl rfl),⟨.inr (.inr ⟨_,_,rfl,rfl⟩),trivial⟩⟩ rfl (fun hg=>OpQ.g (q_pickAndB rfl rfl rfl)) ?_
         refine .A 3 [] rfl rfl ?_
         refine .ite H rfl (fun H=>?_) (fun H=>?_)
         ·refine .A 4 [] rfl trivial ?_
          refine .R func79 results79 rfl ?_
          cases H
          exact .m rfl (.rfl' _)
         ·obtain ⟨y10,hy10,H⟩:=bind_some' H
          refine .A 8 [.b y10] rfl (g_call (en 59 rfl) rfl rfl (c_f_r09_in (hy10))) ?_
          refine .ite H rfl (fun H=>?_) (fun H=>?_)
          ·refine .A 4 [] rfl trivial ?_
           refine .R func79 results79 rfl ?_
           cases H
           exact .m rfl (.rfl' _)
          ·refine .A 11 [] rfl ⟨rfl,rfl,rfl⟩ ?_
           refine .ite H rfl (fun H=>?_) (fun H=>?_)
           ·refine .A 4 [] rfl trivial ?_
            refine .R func79 results79 rfl ?_
            cases H
            exact .m rfl (.rfl' _)
           ·refine .A 6 [] rfl trivial ?_
            refine .R func79 results79 rfl ?_
            cases H
            exact .m rfl (.rfl' _)
theorem c_f_r13_Check {v0r:Record} {r:Int} (H:f_r13_Check v0r=some r):ACall prog 57 [.agg (Record.row v0r)] (·=cI r):=by
 refine ACall.enter' func57 rfl ntmps57 rfl fun S hS=>?_
 unfold f_r13_Check at H
 obtain ⟨y1,hy1,H⟩:=bind_some' H
 refine .A 11 [.r 0,.i y1] rfl (g_call (en 61 rfl) rfl rfl (c_f_r09_Error (hy1))) ?_
 refine .R func57 results57 rfl ?_
 cases H
 exact .m rfl (.rfl' _)
theorem c_f_r15_before {v0a:Record} {v1b:Record} {r:Bool} (H:f_r15_before v0a v1b=some r):ACall prog 58 [.agg (Record.row v0a),.agg (Record.row v1b)] (·=cB r):=by
 refine ACall.enter' func58 rfl ntmps58 rfl fun S hS=>?_
 unfold f_r15_before at H
 refine .A 15 [.r 0,.r 1] rfl trivial ?_
 refine .ite H rfl (fun H=>?_) (fun H=>?_)
 ·refine .A 9 [] rfl trivial ?_
  refine .R func58 results58 rfl ?_
  cases H
  exact .m rfl (.rfl' _)
 ·refine .A 10 [] rfl trivial ?_
  refine .ite H rfl (fun H=>?_) (fun H=>?_)
  ·refine .A 9 [] rfl trivial ?_
   refine .R func58 results58 rfl ?_
   cases H
   exact .m rfl (.rfl' _)
  ·refine .A 10 [] rfl trivial ?_
   refine .R func58 results58 rfl ?_
   cases H
   exact .m rfl (.rfl' _)
theorem c_f_r15_call {v0a:Record} {v1b:Record} {r:Bool} (H:f_r15_call v0a v1b=some r):ACall prog 88 [.agg (Record.row v0a),.agg (Record.row v1b)] (·=cB r):=by
 refine ACall.enter' func88 rfl ntmps88 rfl fun S hS=>?_
 unfold f_r15_call at H
 refine .A 22 [.r 0,.r 1] rfl ⟨rfl,rfl,rfl,rfl,rfl⟩ ?_
 refine .R func88 results88 rfl ?_
 cases H
 exact .m rfl (.rfl' _)
theorem c_f_r15_firsts {v0open:List Record} {v1x:Record} {v2last:Bool} {r:(List Int)} (H:f_r15_firsts v0open v1x v2last=some r):ACall prog 60 [slOf 12 Record.row v0open,.agg (Record.row v1x),cB v2last] (·=slOf 1 rI r):=by
 obtain ⟨i3,hi3,hz3,hs3,hb3⟩:=in_3
 refine ACall.enter' func60 rfl ntmps60 rfl fun S hS=>?_
 unfold f_r15_firsts at H
 refine .A 15 [.r 0] rfl trivial ?_
 refine .tok (i:=7) (e:=3) (sz:=1) rfl ?_
 obtain ⟨n1,H⟩:=loop_some H
 refine .loop (ι:=Nat×(List Int×Int)) (fun ⟨_,v7outl1,v8il1⟩=>[(0,.d (slOf 12 Record.row v0open)),(2,.d (cB v2last)),(4,.ref 0 0),(7,.tsl 1 (v7outl1.map rI) 0),(8,.d (cI v8il1))]) (fun ⟨_,v7outl1,v8il1⟩=>⟨[.row 49 [.d (cI v1x.source),.d (cI v1x.serial),.d (cI v1x.kind),.d (cS v1x.a),.d (cS v1x.b),.d (cI v1x.start),.d (cI v1x.units),.d (cI v1x.call),.d (cI v1x.part),.d (cB v1x.last),.d (cI v1x.trunk),.d (cB v1x.inbound)]],[⟨3,1,v7outl1.length,none⟩]⟩) (fun p=>iter (fun s=>f_r15_firsts_l1 v0open v1x v2last s.1 s.2) p.1 p.2=some r) (·.1) (n1,(([]:List Int),0)) H (.cons rfl (.rfl' _) (.cons rfl (.rfl' _) (.cons rfl (.rfl' _) (.cons rfl (.rfl' _) (.cons rfl (.rfl' _) (.nil)))))) rfl ?_
 rintro ⟨m1,v7outl1,v8il1⟩ HI ih1
 obtain ⟨n1,q1,hm1,H,HK1⟩:=iter_succ HI
 clear HI
 replace H:f_r15_firsts_l1 v0open v1x v2last v7outl1 v8il1=some q1:=H
 unfold f_r15_firsts_l1 at H
 refine .A 8 [.i (v0open.length:Int)] rfl (s23.n rfl rfl) ?_
 refine .ite H rfl (fun H=>?_) (fun H=>?_)
 ·obtain ⟨hk1,H⟩:=ck_some H
  obtain ⟨y1,hy1,H⟩:=bind_some' H
  obtain ⟨hk2,H⟩:=ck_some H
  obtain ⟨hk3,H⟩:=ck_some H
  refine .A 24 [.p 17,.d (.ro (Record.row (nth v0open v8il1.toNat))),.b y1,.d (.ro (Record.row (nth v0open v8il1.toNat))),.i (v7outl1.length:Int),.i ((v7outl1.length:Int)+1)] rfl ⟨rfl,rfl,rfl,fun hg=>g_addI rfl rfl (hk3 hg),rfl,fun hg=>s69.n rfl rfl,rfl,rfl,rfl,fun hg=>s23.ix rfl rfl rfl (hk2 hg),rfl,rfl,g_call (en 62 rfl) rfl rfl (c_f_r15_call (hy1)),s23.ix rfl rfl rfl hk1,(show drawB _ _=true by kernel_rfl)⟩ ?_
  refine .ite H rfl (fun H=>?_) (fun H=>?_)
  ·obtain ⟨hk4,H⟩:=ck_some H
   obtain ⟨hk5,H⟩:=ck_some H
   refine .A 19 [.d (slOf 1 rI ([v8il1]:List Int)),.a 0 3 1 rI (v7outl1++([v8il1]:List Int)),.d (.ro (Record.row (nth v0open v8il1.toNat)))] rfl ⟨rfl,rfl,rfl,fun hg=>s23.ix rfl rfl rfl (hk5 hg),rfl,rfl,s69.a rfl rfl rfl rfl hk4,g_buildSlice1 underlying69 hi3 hs3 hz3 rfl rfl rfl rfl rfl⟩ ?_
   refine .ite H rfl (fun H=>?_) (fun H=>?_)
   ·refine .A 6 [] rfl trivial ?_
    refine .R func60 results60 rfl ?_
    cases H
    cases HK1
    exact .m rfl (.tsl _ _ _)
   ·obtain ⟨hk6,H⟩:=ck_some H
    refine .A 7 [.i (v8il1+1)] rfl (g_addI rfl rfl hk6) ?_
    cases H
    exact .z (ih1 (n1,(v7outl1++([v8il1]:List Int),v8il1+1)) HK1 hm1) rfl rfl
  ·obtain ⟨hk7,H⟩:=ck_some H
   refine .A 7 [.i (v8il1+1)] rfl (g_addI rfl rfl hk7) ?_
   cases H
   exact .z (ih1 (n1,(v7outl1,v8il1+1)) HK1 hm1) rfl rfl
 ·refine .A 6 [] rfl trivial ?_
  refine .R func60 results60 rfl ?_
  cases H
  cases HK1
  exact .m rfl (.tsl _ _ _)
theorem c_f_r15_pick {v0list:List Record} {v1at:List Int} {r:(List Record)×(List Record)} (H:f_r15_pick v0list v1at=some r):ACall prog 59 [slOf 12 Record.row v0list,slOf 1 rI v1at] (·=.tup [slOf 12 Record.row r.1,slOf 12 Record.row r.2]):=by
 obtain ⟨i49,hi49,hz49,hs49,hb49⟩:=in_49
 refine ACall.enter' func59 rfl ntmps59 rfl fun S hS=>?_
 unfold f_r15_pick at H
 refine .A 20 [] rfl trivial ?_
 refine .tok (i:=6) (e:=49) (sz:=12) rfl ?_
 refine .tok (i:=7) (e:=49) (sz:=12) rfl ?_
 obtain ⟨n1,H⟩:=loop_some H
 refine .loop (ι:=Nat×(List Record×List Record×Int×Int)) (fun ⟨_,v6outl1,v7restl1,v8kl1,v9il1⟩=>[(0,.d (slOf 12 Record.row v0list)),(1,.d (slOf 1 rI v1at)),(6,.tsl 12 (v6outl1.map Record.row) 0),(7,.tsl 12 (v7restl1.map Record.row) 1),(8,.d (cI v8kl1)),(9,.d (cI v9il1))]) (fun ⟨_,v6outl1,v7restl1,v8kl1,v9il1⟩=>⟨[],[⟨49,12,v6outl1.length,none⟩,⟨49,12,v7restl1.length,none⟩]⟩) (fun p=>iter (fun s=>f_r15_pick_l1 v0list v1at s.1 s.2.1 s.2.2.1 s.2.2.2) p.1 p.2=some r) (·.1) (n1,(([]:List Record),([]:List Record),0,0)) H (.cons rfl (.rfl' _) (.cons rfl (.rfl' _) (.cons rfl (.rfl' _) (.cons rfl (.rfl' _) (.cons rfl (.rfl' _) (.cons rfl (.rfl' _) (.nil))))))) rfl ?_
 rintro ⟨m1,v6outl1,v7restl1,v8kl1,v9il1⟩ HI ih1
 obtain ⟨n1,q1,hm1,H,HK1⟩:=iter_succ HI
 clear HI
 replace H:f_r15_pick_l1 v0list v1at v6outl1 v7restl1 v8kl1 v9il1=some q1:=H
 unfold f_r15_pick_l1 at H
 refine .A 8 [.i (v0list.length:Int)] rfl (s23.n rfl rfl) ?_
 refine .ite H rfl (fun H=>?_) (fun H=>?_)
 ·obtain ⟨hk1,H⟩:=ck_some H
  refine .A 18 [.i (v1at.length:Int),.d (.ro (rI (nth v1at v8kl1.toNat)))] rfl ⟨rfl,rfl,rfl,rfl,fun hg=>s69.ix rfl rfl rfl (hk1 hg),rfl,rfl,s69.n rfl rfl⟩ ?_
  refine .ite H rfl (fun H=>?_) (fun H=>?_)
  ·obtain ⟨hk2,H⟩:=ck_some H
   obtain ⟨hk3,H⟩:=ck_some H
   obtain ⟨hk4,H⟩:=ck_some H
   obtain ⟨hk5,H⟩:=ck_some H
   refine .A 22 [.d (.ro (Record.row (nth v0list v9il1.toNat))),.d (slOf 12 Record.row ([nth v0list v9il1.toNat]:List Record)),.a 0 49 12 Record.row (v6outl1++([nth v0list v9il1.toNat]:List Record)),.i (v8kl1+1),.i (v9il1+1)] rfl ⟨g_addI rfl rfl hk5,g_addI rfl rfl hk4,s23.a rfl rfl rfl rfl hk3,g_buildSlice1 underlying23 hi49 hs49 hz49 rfl rfl rfl rfl rfl,s23.ix rfl rfl rfl hk2⟩ ?_
   cases H
   exact .z (ih1 (n1,(v6outl1++([nth v0list v9il1.toNat]:List Record),v7restl1,v8kl1+1,v9il1+1)) HK1 hm1) rfl rfl
  ·obtain ⟨hk6,H⟩:=ck_some H
   obtain ⟨hk7,H⟩:=ck_some H
   obtain ⟨hk8,H⟩:=ck_some H
   refine .A 16 [.d (.ro (Record.row (nth v0list v9il1.toNat))),.d (slOf 12 Record.row ([nth v0list v9il1.toNat]:List Record)),.a 1 49 12 Record.row (v7restl1++([nth v0list v9il1.toNat]:List Record)),.i (v9il1+1)] rfl ⟨g_addI rfl rfl hk8,s23.a rfl rfl rfl rfl hk7,g_buildSlice1 underlying23 hi49 hs49 hz49 rfl rfl rfl rfl rfl,s23.ix rfl rfl rfl hk6⟩ ?_
   cases H
   exact .z (ih1 (n1,(v6outl1,v7restl1++([nth v0list v9il1.toNat]:List Record),v8kl1,v9il1+1)) HK1 hm1) rfl rfl
 ·refine .A 8 [] rfl trivial ?_
  refine .R func59 results59 rfl ?_
  cases H
  cases HK1
  exact .m rfl (.tupL ⟨.tsl _ _ _,.tsl _ _ _,trivial⟩)
theorem c_f_r15_whole {v0:List Record} {r:Record×Bool} (H:f_r15_whole v0=some r):ACall prog 91 [slOf 12 Record.row v0] (·=.tup [.agg (Record.row r.1),cB r.2]):=by
 obtain ⟨i49,hi49,hz49,hs49,hb49⟩:=in_49
 refine ACall.enter' func91 rfl ntmps91 rfl fun S hS=>?_
 unfold f_r15_whole at H
 refine .A 14 [.r 0,.r 1] rfl trivial ?_
 refine .blockJoin2 (ι:=Int×Int×Int×List UInt8×List UInt8×Int×Int×Int×Bool) (fun ⟨o1c0j1,o1c1j1,o1c2j1,o1c3j1,o1c4j1,o1c5j1,o1c6j1,o1c10j1,o1c11j1⟩=>[(0,.d (slOf 12 Record.row v0)),(2,.ref 0 0),(4,.ref 1 0)]) (fun ⟨o1c0j1,o1c1j1,o1c2j1,o1c3j1,o1c4j1,o1c5j1,o1c6j1,o1c10j1,o1c11j1⟩=>⟨[.row 49 [.d (cI 0),.d (cI 0),.d (cI 0),.d (cS ([]:List UInt8)),.d (cS ([]:List UInt8)),.d (cI 0),.d (cI 0),.d (cI 0),.d (cI 0),.d (cB false),.d (cI 0),.d (cB false)],.row 49 [.d (cI o1c0j1),.d (cI o1c1j1),.d (cI o1c2j1),.d (cS o1c3j1),.d (cS o1c4j1),.d (cI o1c5j1),.d (cI o1c6j1),.d (cI 0),.d (cI 0),.d (cB false),.d (cI o1c10j1),.d (cB o1c11j1)]],[]⟩) (fun s=>f_r15_whole_j1 v0 s.1 s.2.1 s.2.2.1 s.2.2.2.1 s.2.2.2.2.1 s.2.2.2.2.2.1 s.2.2.2.2.2.2.1 s.2.2.2.2.2.2.2.1 s.2.2.2.2.2.2.2.2=some r) ?_ ?_
 ·rintro ⟨o1c0j1,o1c1j1,o1c2j1,o1c3j1,o1c4j1,o1c5j1,o1c6j1,o1c10j1,o1c11j1⟩ H
  replace H:f_r15_whole_j1 v0 o1c0j1 o1c1j1 o1c2j1 o1c3j1 o1c4j1 o1c5j1 o1c6j1 o1c10j1 o1c11j1=some r:=H
  unfold f_r15_whole_j1 at H
  refine .A 9 [.i (v0.length:Int)] rfl (s23.n rfl rfl) ?_
  refine .R func91 results91 rfl ?_
  cases H
  exact .m rfl (.tupD rfl)
 ·intro hj1 hj1x
  obtain ⟨n1,H⟩:=loop_some H
  refine .loop (ι:=Nat×(Int×Int×Int×Int×List UInt8×List UInt8×Int×Int×Int×Bool)) (fun ⟨_,v5l1,o1c0l1,o1c1l1,o1c2l1,o1c3l1,o1c4l1,o1c5l1,o1c6l1,o1c10l1,o1c11l1⟩=>[(0,.d (slOf 12 Record.row v0)),(2,.ref 0 0),(4,.ref 1 0),(5,.d (cI v5l1))]) (fun ⟨_,v5l1,o1c0l1,o1c1l1,o1c2l1,o1c3l1,o1c4l1,o1c5l1,o1c6l1,o1c10l1,o1c11l1⟩=>⟨[.row 49 [.d (cI 0),.d (cI 0),.d (cI 0),.d (cS ([]:List UInt8)),.d (cS ([]:List UInt8)),.d (cI 0),.d (cI 0),.d (cI 0),.d (cI 0),.d (cB false),.d (cI 0),.d (cB false)],.row 49 [.d (cI o1c0l1),.d (cI o1c1l1),.d (cI o1c2l1),.d (cS o1c3l1),.d (cS o1c4l1),.d (cI o1c5l1),.d (cI o1c6l1),.d (cI 0),.d (cI 0),.d (cB false),.d (cI o1c10l1),.d (cB o1c11l1)]],[]⟩) (fun p=>iter (fun s=>f_r15_whole_l1 v0 s.1 s.2.1 s.2.2.1 s.2.2.2.1 s.2.2.2.2.1 s.2.2.2.2.2.1 s.2.2.2.2.2.2.1 s.2.2.2.2.2.2.2.1 s.2.2.2.2.2.2.2.2.1 s.2.2.2.2.2.2.2.2.2) p.1 p.2=some r) (·.1) (n1,(0,0,0,0,([]:List UInt8),([]:List UInt8),0,0,0,false)) H (.cons rfl (.rfl' _) (.cons rfl (.rfl' _) (.cons rfl (.rfl' _) (.cons rfl (.rfl' _) (.nil))))) rfl ?_
  rintro ⟨m1,v5l1,o1c0l1,o1c1l1,o1c2l1,o1c3l1,o1c4l1,o1c5l1,o1c6l1,o1c10l1,o1c11l1⟩ HI ih1
  obtain ⟨n1,q1,hm1,H,HK1⟩:=iter_succ HI
  clear HI
  replace H:f_r15_whole_l1 v0 v5l1 o1c0l1 o1c1l1 o1c2l1 o1c3l1 o1c4l1 o1c5l1 o1c6l1 o1c10l1 o1c11l1=some q1:=H
  unfold f_r15_whole_l1 at H
  refine .A 8 [.i (v0.length:Int)] rfl (s23.n rfl rfl) ?_
  refine .ite H rfl (fun H=>?_) (fun H=>?_)
  ·obtain ⟨hk1,H⟩:=ck_some H
   obtain ⟨y1,hy1,H⟩:=bind_some' H
   refine .A 24 [.d (.ro (Record.row (nth v0 v5l1.toNat))),.r 2,.i y1] rfl ⟨rfl,rfl,fun hg=>g_call (en 63 rfl) rfl rfl (c_f_r13_Check (gcall_some hy1 hg)),rfl,s23.ix rfl rfl rfl hk1⟩ ?_
   refine .ite H rfl (fun H=>?_) (fun H=>?_)
   ·refine .A 6 [.d (.agg (Record.row (⟨0,0,0,([]:List UInt8),([]:List UInt8),0,0,0,0,false,0,false⟩:Record)))] rfl (OpQ.g (q_buildP pl_49 hi49 hz49 rfl rfl)) ?_
    refine .R func91 results91 rfl ?_
    cases H
    cases HK1
    exact .m rfl (.tupD rfl)
   ·obtain ⟨hk2,H⟩:=ck_some H
    obtain ⟨hk3,H⟩:=ck_some H
    obtain ⟨y2,hy2,H⟩:=bind_some' H
    refine .A 61 [.i (o1c6l1+((nth v0 v5l1.toNat).units)),.d (.ro (Record.row (nth v0 (Int.toNat (0))))),.r 3,.b y2,.b (((nth v0 v5l1.toNat).inbound) != ((nth v0 (Int.toNat (0))).inbound))] rfl ⟨rfl,fun hg=>OpQ.g (q_bneq rfl underlying4 rfl),rfl,rfl,rfl,rfl,rfl,rfl,rfl,rfl,rfl,rfl,rfl,rfl,rfl,rfl,rfl,rfl,rfl,rfl,rfl,rfl,rfl,rfl,rfl,rfl,g_call (en 62 rfl) rfl rfl (c_f_r15_call (hy2)),s23.ix rfl rfl rfl hk3,g_addI rfl rfl hk2⟩ ?_
    refine .ite H rfl (fun H=>?_) (fun H=>?_)
    ·refine .A 6 [.d (.agg (Record.row (⟨0,0,0,([]:List UInt8),([]:List UInt8),0,0,0,0,false,0,false⟩:Record)))] rfl (OpQ.g (q_buildP pl_49 hi49 hz49 rfl rfl)) ?_
     refine .R func91 results91 rfl ?_
     cases H
     cases HK1
     exact .m rfl (.tupD rfl)
    ·obtain ⟨y3,hy3,H⟩:=bind_some' H
     refine .A 33 [.i y3] rfl (g_call (en 63 rfl) rfl rfl (c_f_r13_Check (hy3))) ?_
     refine .ite H rfl (fun H=>?_) (fun H=>?_)
     ·refine .A 6 [.d (.agg (Record.row (⟨0,0,0,([]:List UInt8),([]:List UInt8),0,0,0,0,false,0,false⟩:Record)))] rfl (OpQ.g (q_buildP pl_49 hi49 hz49 rfl rfl)) ?_
      refine .R func91 results91 rfl ?_
      cases H
      cases HK1
      exact .m rfl (.tupD rfl)
     ·obtain ⟨hk4,H⟩:=ck_some H
      refine .A 7 [.i (v5l1+1)] rfl (g_addI rfl rfl hk4) ?_
      cases H
      exact .t 2 0 (ih1 (n1,(v5l1+1,(nth v0 (Int.toNat (0))).source,(nth v0 (Int.toNat (0))).serial,(nth v0 (Int.toNat (0))).kind,(nth v0 (Int.toNat (0))).a,(nth v0 (Int.toNat (0))).b,(nth v0 (Int.toNat (0))).start,o1c6l1+((nth v0 v5l1.toNat).units),(nth v0 (Int.toNat (0))).trunk,(nth v0 (Int.toNat (0))).inbound)) HK1 hm1) rfl rfl rfl rfl rfl hS rfl
  ·refine .A 1 [] rfl trivial ?_
   obtain ⟨q0,H9,hq0⟩:=map_some' H; clear H; cases hq0
   cases HK1
   have H:=H9
   exact .z (hj1x (o1c0l1,o1c1l1,o1c2l1,o1c3l1,o1c4l1,o1c5l1,o1c6l1,o1c10l1,o1c11l1) H) rfl rfl
theorem c_f_r15_Complete {v0parts:List Record} {r:Record×Bool} (H:f_r15_Complete v0parts=some r):ACall prog 61 [slOf 12 Record.row v0parts] (·=.tup [.agg (Record.row r.1),cB r.2]):=by
 obtain ⟨i49,hi49,hz49,hs49,hb49⟩:=in_49
 refine ACall.enter' func61 rfl ntmps61 rfl fun S hS=>?_
 unfold f_r15_Complete at H
 refine .A 10 [.r 0] rfl trivial ?_
 refine .blockJoin2 (ι:=Unit) (fun _=>[(0,.d (slOf 12 Record.row v0parts)),(2,.ref 0 0)]) (fun _=>⟨[.row 49 [.d (cI 0),.d (cI 0),.d (cI 0),.d (cS ([]:List UInt8)),.d (cS ([]:List UInt8)),.d (cI 0),.d (cI 0),.d (cI 0),.d (cI 0),.d (cB false),.d (cI 0),.d (cB false)]],[]⟩) (fun s=>f_r15_Complete_j1 v0parts=some r) ?_ ?_
 ·rintro _ H
  replace H:f_r15_Complete_j1 v0parts=some r:=H
  unfold f_r15_Complete_j1 at H
  obtain ⟨y1,hy1,H⟩:=bind_some' H
  refine .A 9 [.d (.tup [.agg (Record.row y1.1),cB y1.2])] rfl (g_call (en 64 rfl) rfl rfl (c_f_r15_whole (hy1))) ?_
  refine .R func61 results61 rfl ?_
  cases H
  exact .m rfl (.tupD rfl)
 ·intro hj1 hj1x
  obtain ⟨n1,H⟩:=loop_some H
  refine .loop (ι:=Nat×(Int)) (fun ⟨_,v4il1⟩=>[(0,.d (slOf 12 Record.row v0parts)),(2,.ref 0 0),(4,.d (cI v4il1))]) (fun ⟨_,v4il1⟩=>⟨[.row 49 [.d (cI 0),.d (cI 0),.d (cI 0),.d (cS ([]:List UInt8)),.d (cS ([]:List UInt8)),.d (cI 0),.d (cI 0),.d (cI 0),.d (cI 0),.d (cB false),.d (cI 0),.d (cB false)]],[]⟩) (fun p=>iter (fun s=>f_r15_Complete_l1 v0parts s) p.1 p.2=some r) (·.1) (n1,0) H (.cons rfl (.rfl' _) (.cons rfl (.rfl' _) (.cons rfl (.rfl' _) (.nil)))) rfl ?_
  rintro ⟨m1,v4il1⟩ HI ih1
  obtain ⟨n1,q1,hm1,H,HK1⟩:=iter_succ HI
  clear HI
  replace H:f_r15_Complete_l1 v0parts v4il1=some q1:=H
  unfold f_r15_Complete_l1 at H
  refine .A 8 [.i (v0parts.length:Int)] rfl (s23.n rfl rfl) ?_
  refine .ite H rfl (fun H=>?_) (fun H=>?_)
  ·obtain ⟨hk1,H⟩:=ck_some H
   obtain ⟨hk2,H⟩:=ck_some H
   obtain ⟨hk3,H⟩:=ck_some H
   obtain ⟨hk4,H⟩:=ck_some H
   refine .A 27 [.d (.ro (Record.row (nth v0parts v4il1.toNat))),.i (v4il1+1),.d (.ro (Record.row (nth v0parts v4il1.toNat))),.i (v4il1+1),.i (v0parts.length:Int),.b (((nth v0parts v4il1.toNat).last) != ((v4il1+1)==(v0parts.length:Int)))] rfl ⟨rfl,fun hg=>OpQ.g (q_bneq rfl underlying4 rfl),rfl,rfl,rfl,rfl,fun hg=>s23.n rfl rfl,rfl,fun hg=>g_addI rfl rfl (hk4 hg),rfl,rfl,rfl,fun hg=>s23.ix rfl rfl rfl (hk3 hg),rfl,rfl,g_addI rfl rfl hk2,s23.ix rfl rfl rfl hk1⟩ ?_
   refine .ite H rfl (fun H=>?_) (fun H=>?_)
   ·refine .A 6 [.d (.agg (Record.row (⟨0,0,0,([]:List UInt8),([]:List UInt8),0,0,0,0,false,0,false⟩:Record)))] rfl (OpQ.g (q_buildP pl_49 hi49 hz49 rfl rfl)) ?_
    refine .R func61 results61 rfl ?_
    cases H
    cases HK1
    exact .m rfl (.tupD rfl)
   ·obtain ⟨hk5,H⟩:=ck_some H
    refine .A 7 [.i (v4il1+1)] rfl (g_addI rfl rfl hk5) ?_
    cases H
    exact .z (ih1 (n1,(v4il1+1)) HK1 hm1) rfl rfl
  ·refine .A 1 [] rfl trivial ?_
   obtain ⟨q0,H9,hq0⟩:=map_some' H; clear H; cases hq0
   cases HK1
   have H:=H9
   exact .z (hj1x () H) rfl rfl
theorem c_f_r15_Open {v0:List Record} {r:Bool} (H:f_r15_Open v0=some r):ACall prog 31 [slOf 12 Record.row v0] (·=cB r):=by
 refine ACall.enter' func31 rfl ntmps31 rfl fun S hS=>?_
 unfold f_r15_Open at H
 refine .A 9 [] rfl trivial ?_
 refine .blockJoin2 (ι:=Unit) (fun _=>[(0,.d (slOf 12 Record.row v0))]) (fun _=>⟨[],[]⟩) (fun s=>f_r15_Open_j1 v0=some r) ?_ ?_
 ·rintro _ H
  replace H:f_r15_Open_j1 v0=some r:=H
  unfold f_r15_Open_j1 at H
  refine .A 6 [] rfl trivial ?_
  obtain ⟨n1,H⟩:=loop_some H
  refine .loop (ι:=Nat×(Int)) (fun ⟨_,v4l1⟩=>[(0,.d (slOf 12 Record.row v0)),(4,.d (cI v4l1))]) (fun ⟨_,v4l1⟩=>⟨[],[]⟩) (fun p=>iter (fun s=>f_r15_Open_l1 v0 s) p.1 p.2=some r) (·.1) (n1,0) H (.cons rfl (.rfl' _) (.cons rfl (.rfl' _) (.nil))) rfl ?_
  rintro ⟨m1,v4l1⟩ HI ih1
  obtain ⟨n1,q1,hm1,H,HK1⟩:=iter_succ HI
  clear HI
  replace H:f_r15_Open_l1 v0 v4l1=some q1:=H
  unfold f_r15_Open_l1 at H
  refine .A 8 [.i (v0.length:Int)] rfl (s23.n rfl rfl) ?_
  refine .ite H rfl (fun H=>?_) (fun H=>?_)
  ·obtain ⟨hk1,H⟩:=ck_some H
   obtain ⟨y1,hy1,H⟩:=bind_some' H
   obtain ⟨y2,hy2,H⟩:=bind_some' H
   obtain ⟨y3,hy3,H⟩:=bind_some' H
   refine .A 34 [.d (.ro (Record.row (nth v0 v4l1.toNat))),.d (slOf 1 rI y1),.d (.tup [slOf 12 Record.row y2.1,slOf 12 Record.row y2.2]),.d (.tup [.agg (Record.row y3.1),cB y3.2]),.r 0] rfl ⟨g_call (en 65 rfl) rfl rfl (c_f_r15_Complete (hy3)),g_call (en 66 rfl) rfl rfl (c_f_r15_pick (hy2)),g_call (en 67 rfl) rfl rfl (c_f_r15_firsts (hy1)),s23.ix rfl rfl rfl hk1⟩ ?_
   refine .ite H rfl (fun H=>?_) (fun H=>?_)
   ·refine .A 4 [] rfl trivial ?_
    refine .R func31 results31 rfl ?_
    cases H
    cases HK1
    exact .m rfl (.rfl' _)
   ·obtain ⟨hk2,H⟩:=ck_some H
    refine .A 7 [.i (v4l1+1)] rfl (g_addI rfl rfl hk2) ?_
    cases H
    exact .t 0 0 (ih1 (n1,(v4l1+1)) HK1 hm1) rfl rfl rfl rfl rfl hS rfl
  ·refine .A 5 [] rfl trivial ?_
   refine .R func31 results31 rfl ?_
   cases H
   cases HK1
   exact .m rfl (.rfl' _)
 ·intro hj1 hj1x
  obtain ⟨n2,H⟩:=loop_some H
  refine .loop (ι:=Nat×(Int)) (fun ⟨_,v3l2⟩=>[(0,.d (slOf 12 Record.row v0)),(3,.d (cI v3l2))]) (fun ⟨_,v3l2⟩=>⟨[],[]⟩) (fun p=>iter (fun s=>f_r15_Open_l2 v0 s) p.1 p.2=some r) (·.1) (n2,0) H (.cons rfl (.rfl' _) (.cons rfl (.rfl' _) (.nil))) rfl ?_
  rintro ⟨m1,v3l2⟩ HI ih1
  obtain ⟨n1,q1,hm1,H,HK1⟩:=iter_succ HI
  clear HI
  replace H:f_r15_Open_l2 v0 v3l2=some q1:=H
  unfold f_r15_Open_l2 at H
  refine .A 8 [.i (v0.length:Int)] rfl (s23.n rfl rfl) ?_
  refine .ite H rfl (fun H=>?_) (fun H=>?_)
  ·obtain ⟨hk3,H⟩:=ck_some H
   obtain ⟨hk4,H⟩:=ck_some H
   obtain ⟨y4,hy4,H⟩:=bind_some' H
   obtain ⟨hk5,H⟩:=ck_some H
   obtain ⟨hk6,H⟩:=ck_some H
   obtain ⟨hk7,H⟩:=ck_some H
   obtain ⟨y5,hy5,H⟩:=bind_some' H
   refine .C 33 [.p 30,.d (.ro (Record.row (nth v0 v3l2.toNat))),.d (.ro (Record.row (nth v0 v3l2.toNat))),.i y4,.d (.ro (Record.row (nth v0 v3l2.toNat))),.i (v3l2-1),.d (.ro (Record.row (nth v0 (v3l2-1).toNat))),.b y5] rfl ⟨fun hg=>g_call (en 68 rfl) rfl rfl (c_f_r15_before (gcall_some hy5 hg)),rfl,rfl,rfl,fun hg=>s23.ix rfl rfl rfl (hk7 hg),rfl,rfl,fun hg=>g_subI rfl rfl (hk6 hg),rfl,rfl,fun hg=>s23.ix rfl rfl rfl (hk5 hg),rfl,rfl,rfl,rfl,rfl,rfl,fun hg=>g_call (en 63 rfl) rfl rfl (c_f_r13_Check (gcall_some hy4 hg)),rfl,rfl,fun hg=>s23.ix rfl rfl rfl (hk4 hg),rfl,rfl,s23.ix rfl rfl rfl hk3,(show drawB _ _=true by kernel_rfl)⟩ ?_
   refine .guardG (env':=[(32,_),(42,_)]) rfl rfl rfl ⟨.inr (.inl rfl),⟨.inr (.inr ⟨_,_,rfl,rfl⟩),trivial⟩⟩ rfl (fun hg=>OpQ.g (q_pickAndB rfl rfl rfl)) ?_
   refine .A 3 [] rfl rfl ?_
   refine .ite H rfl (fun H=>?_) (fun H=>?_)
   ·refine .A 4 [] rfl trivial ?_
    refine .R func31 results31 rfl ?_
    cases H
    cases HK1
    exact .m rfl (.rfl' _)
   ·obtain ⟨hk8,H⟩:=ck_some H
    refine .A 7 [.i (v3l2+1)] rfl (g_addI rfl rfl hk8) ?_
    cases H
    exact .z (ih1 (n1,(v3l2+1)) HK1 hm1) rfl rfl
  ·refine .A 1 [] rfl trivial ?_
   obtain ⟨q0,H9,hq0⟩:=map_some' H; clear H; cases hq0
   cases HK1
   have H:=H9
   exact .z (hj1x () H) rfl rfl
theorem c_f_r16_counted {v0:Intake} {r:Bool} (H:f_r16_counted v0=some r):ACall prog 32 [.agg (Intake.row v0)] (·=cB r):=by
 refine ACall.enter' func32 rfl ntmps32 rfl fun S hS=>?_
 unfold f_r16_counted at H
 refine .A 11 [.r 0] rfl trivial ?_
 obtain ⟨n1,H⟩:=loop_some H
 refine .loop (ι:=Nat×(Int)) (fun ⟨_,v3l1⟩=>[(1,.ref 0 0),(3,.d (cI v3l1))]) (fun ⟨_,v3l1⟩=>⟨[.row 26 [.d (slOf 3 Range.row v0.seen),.d (slOf 12 Record.row v0.open_),.d (slOf 4 Head.row v0.heads)]],[]⟩) (fun p=>iter (fun s=>f_r16_counted_l1 v0 s) p.1 p.2=some r) (·.1) (n1,1) H (.cons rfl (.rfl' _) (.cons rfl (.rfl' _) (.nil))) rfl ?_
 rintro ⟨m1,v3l1⟩ HI ih1
 obtain ⟨n1,q1,hm1,H,HK1⟩:=iter_succ HI
 clear HI
 replace H:f_r16_counted_l1 v0 v3l1=some q1:=H
 unfold f_r16_counted_l1 at H
 refine .A 6 [] rfl trivial ?_
 refine .ite H rfl (fun H=>?_) (fun H=>?_)
 ·refine .A 12 [] rfl trivial ?_
  refine .blockJoin2 (ι:=Int) (fun v4j1=>[(1,.ref 0 0),(3,.d (cI v3l1)),(4,.d (cI v4j1))]) (fun v4j1=>⟨[.row 26 [.d (slOf 3 Range.row v0.seen),.d (slOf 12 Record.row v0.open_),.d (slOf 4 Head.row v0.heads)]],[]⟩) (fun s=>f_r16_counted_j1 v0 v3l1 s=some q1) ?_ ?_
  ·rintro v4j1 H
   replace H:f_r16_counted_j1 v0 v3l1 v4j1=some q1:=H
   unfold f_r16_counted_j1 at H
   refine .A 5 [] rfl trivial ?_
   refine .blockJoin2 (ι:=Int) (fun v4j2=>[(1,.ref 0 0),(3,.d (cI v3l1)),(4,.d (cI v4j2))]) (fun v4j2=>⟨[.row 26 [.d (slOf 3 Range.row v0.seen),.d (slOf 12 Record.row v0.open_),.d (slOf 4 Head.row v0.heads)]],[]⟩) (fun s=>f_r16_counted_j2 v3l1 s=some q1) ?_ ?_
   ·rintro v4j2 H
    replace H:f_r16_counted_j2 v3l1 v4j2=some q1:=H
    unfold f_r16_counted_j2 at H
    refine .A 5 [] rfl trivial ?_
    refine .ite H rfl (fun H=>?_) (fun H=>?_)
    ·refine .A 4 [] rfl trivial ?_
     refine .R func32 results32 rfl ?_
     cases H
     cases HK1
     exact .m rfl (.rfl' _)
    ·obtain ⟨hk1,H⟩:=ck_some H
     refine .A 7 [.i (v3l1+1)] rfl (g_addI rfl rfl hk1) ?_
     cases H
     exact .z (ih1 (n1,(v3l1+1)) HK1 hm1) rfl rfl
   ·intro hj2 hj2x
    obtain ⟨n2,H⟩:=loop_some H
    refine .loop (ι:=Nat×(Int×Int)) (fun ⟨_,v4l2,v6l2⟩=>[(1,.ref 0 0),(3,.d (cI v3l1)),(4,.d (cI v4l2)),(6,.d (cI v6l2))]) (fun ⟨_,v4l2,v6l2⟩=>⟨[.row 26 [.d (slOf 3 Range.row v0.seen),.d (slOf 12 Record.row v0.open_),.d (slOf 4 Head.row v0.heads)]],[]⟩) (fun p=>iter (fun s=>f_r16_counted_l2 v0 v3l1 s.1 s.2) p.1 p.2=some q1) (·.1) (n2,(v4j1,0)) H (.cons rfl (.rfl' _) (.cons rfl (.rfl' _) (.cons rfl (.rfl' _) (.cons rfl (.rfl' _) (.nil))))) rfl ?_
    rintro ⟨m2,v4l2,v6l2⟩ HI ih2
    obtain ⟨n2,q2,hm2,H,HK2⟩:=iter_succ HI
    clear HI
    replace H:f_r16_counted_l2 v0 v3l1 v4l2 v6l2=some q2:=H
    unfold f_r16_counted_l2 at H
    refine .A 9 [.i (v0.heads.length:Int)] rfl (s24.n rfl rfl) ?_
    refine .ite H rfl (fun H=>?_) (fun H=>?_)
    ·obtain ⟨hk2,H⟩:=ck_some H
     refine .A 14 [.d (.ro (Head.row (nth v0.heads v6l2.toNat)))] rfl (s24.ix rfl rfl rfl hk2) ?_
     refine .ite H rfl (fun H=>?_) (fun H=>?_)
     ·obtain ⟨hk3,H⟩:=ck_some H
      obtain ⟨hk4,H⟩:=ck_some H
      obtain ⟨hk5,H⟩:=ck_some H
      refine .A 17 [.d (.ro (Head.row (nth v0.heads v6l2.toNat))),.i (v4l2-((nth v0.heads v6l2.toNat).count)),.i (v6l2+1)] rfl ⟨g_addI rfl rfl hk5,g_subI rfl rfl hk4,s24.ix rfl rfl rfl hk3⟩ ?_
      cases H
      exact .z (ih2 (n2,(v4l2-((nth v0.heads v6l2.toNat).count),v6l2+1)) HK2 hm2) rfl rfl
     ·obtain ⟨hk6,H⟩:=ck_some H
      refine .A 7 [.i (v6l2+1)] rfl (g_addI rfl rfl hk6) ?_
      cases H
      exact .z (ih2 (n2,(v4l2,v6l2+1)) HK2 hm2) rfl rfl
    ·refine .A 1 [] rfl trivial ?_
     obtain ⟨q0,H9,hq0⟩:=map_some' H; clear H; cases hq0
     cases HK2
     have H:=H9
     exact .z (hj2x v4l2 H) rfl rfl
  ·intro hj1 hj1x
   obtain ⟨n3,H⟩:=loop_some H
   refine .loop (ι:=Nat×(Int×Int)) (fun ⟨_,v4l3,v5l3⟩=>[(1,.ref 0 0),(3,.d (cI v3l1)),(4,.d (cI v4l3)),(5,.d (cI v5l3))]) (fun ⟨_,v4l3,v5l3⟩=>⟨[.row 26 [.d (slOf 3 Range.row v0.seen),.d (slOf 12 Record.row v0.open_),.d (slOf 4 Head.row v0.heads)]],[]⟩) (fun p=>iter (fun s=>f_r16_counted_l3 v0 v3l1 s.1 s.2) p.1 p.2=some q1) (·.1) (n3,(0,0)) H (.cons rfl (.rfl' _) (.cons rfl (.rfl' _) (.cons rfl (.rfl' _) (.cons rfl (.rfl' _) (.nil))))) rfl ?_
   rintro ⟨m2,v4l3,v5l3⟩ HI ih2
   obtain ⟨n2,q2,hm2,H,HK2⟩:=iter_succ HI
   clear HI
   replace H:f_r16_counted_l3 v0 v3l1 v4l3 v5l3=some q2:=H
   unfold f_r16_counted_l3 at H
   refine .A 9 [.i (v0.seen.length:Int)] rfl (s22.n rfl rfl) ?_
   refine .ite H rfl (fun H=>?_) (fun H=>?_)
   ·obtain ⟨hk7,H⟩:=ck_some H
    refine .A 14 [.d (.ro (Range.row (nth v0.seen v5l3.toNat)))] rfl (s22.ix rfl rfl rfl hk7) ?_
    refine .ite H rfl (fun H=>?_) (fun H=>?_)
    ·obtain ⟨hk8,H⟩:=ck_some H
     obtain ⟨hk9,H⟩:=ck_some H
     obtain ⟨hk10,H⟩:=ck_some H
     obtain ⟨hk11,H⟩:=ck_some H
     obtain ⟨hk12,H⟩:=ck_some H
     obtain ⟨hk13,H⟩:=ck_some H
     refine .A 26 [.p 17,.d (.ro (Range.row (nth v0.seen v5l3.toNat))),.i (v4l3+((nth v0.seen v5l3.toNat).to_)),.d (.ro (Range.row (nth v0.seen v5l3.toNat))),.i ((v4l3+((nth v0.seen v5l3.toNat).to_)) - ((nth v0.seen v5l3.toNat).from_)),.i (((v4l3+((nth v0.seen v5l3.toNat).to_)) - ((nth v0.seen v5l3.toNat).from_))+1),.i (v5l3+1)] rfl ⟨g_addI rfl rfl hk13,g_addI rfl rfl hk12,g_subI rfl rfl hk11,s22.ix rfl rfl rfl hk10,g_addI rfl rfl hk9,s22.ix rfl rfl rfl hk8,(show drawB _ _=true by kernel_rfl)⟩ ?_
     cases H
     exact .z (ih2 (n2,(((v4l3+((nth v0.seen v5l3.toNat).to_)) - ((nth v0.seen v5l3.toNat).from_))+1,v5l3+1)) HK2 hm2) rfl rfl
    ·obtain ⟨hk14,H⟩:=ck_some H
     refine .A 7 [.i (v5l3+1)] rfl (g_addI rfl rfl hk14) ?_
     cases H
     exact .z (ih2 (n2,(v4l3,v5l3+1)) HK2 hm2) rfl rfl
   ·refine .A 1 [] rfl trivial ?_
    obtain ⟨q0,H9,hq0⟩:=map_some' H; clear H; cases hq0
    cases HK2
    have H:=H9
    exact .z (hj1x v4l3 H) rfl rfl
 ·refine .A 5 [] rfl trivial ?_
  refine .R func32 results32 rfl ?_
  cases H
  cases HK1
  exact .m rfl (.rfl' _)
set_option maxRecDepth 100000
set_option maxHeartbeats 1000000
theorem c_f_r14_Has {v0seen:List Range} {v1source:Int} {v2serial:Int} {r:Bool} (H:f_r14_Has v0seen v1source v2serial=some r):ACall prog 33 [slOf 3 Range.row v0seen,cI v1source,cI v2serial] (·=cB r):=by
 refine ACall.enter' func33 rfl ntmps33 rfl fun S hS=>?_
 unfold f_r14_Has at H
 refine .A 10 [] rfl trivial ?_
 obtain ⟨n1,H⟩:=loop_some H
 refine .loop (ι:=Nat×(Int)) (fun ⟨_,v7il1⟩=>[(0,.d (slOf 3 Range.row v0seen)),(1,.d (cI v1source)),(2,.d (cI v2serial)),(7,.d (cI v7il1))]) (fun ⟨_,v7il1⟩=>⟨[],[]⟩) (fun p=>iter (fun s=>f_r14_Has_l1 v0seen v1source v2serial s) p.1 p.2=some r) (·.1) (n1,0) H (.cons rfl (.rfl' _) (.cons rfl (.rfl' _) (.cons rfl (.rfl' _) (.cons rfl (.rfl' _) (.nil))))) rfl ?_
 rintro ⟨m1,v7il1⟩ HI ih1
 obtain ⟨n1,q1,hm1,H,HK1⟩:=iter_succ HI
 clear HI
 replace H:f_r14_Has_l1 v0seen v1source v2serial v7il1=some q1:=H
 unfold f_r14_Has_l1 at H
 refine .A 8 [.i (v0seen.length:Int)] rfl (s22.n rfl rfl) ?_
 refine .ite H rfl (fun H=>?_) (fun H=>?_)
 ·obtain ⟨hk1,H⟩:=ck_some H
  obtain ⟨hk2,H⟩:=ck_some H
  obtain ⟨hk3,H⟩:=ck_some H
  refine .A 31 [.d (.ro (Range.row (nth v0seen v7il1.toNat))),.d (.ro (Range.row (nth v0seen v7il1.toNat))),.d (.ro (Range.row (nth v0seen v7il1.toNat)))] rfl ⟨rfl,rfl,rfl,rfl,rfl,fun hg=>s22.ix rfl rfl rfl (hk3 hg),rfl,rfl,rfl,rfl,rfl,rfl,rfl,fun hg=>s22.ix rfl rfl rfl (hk2 hg),rfl,rfl,s22.ix rfl rfl rfl hk1⟩ ?_
  refine .ite H rfl (fun H=>?_) (fun H=>?_)
  ·obtain ⟨y1,hy1,H⟩:=bind_some' H
   refine .A 7 [.b y1] rfl (g_call (en 58 rfl) rfl rfl (c_f_r14_identity (hy1))) ?_
   refine .R func33 results33 rfl ?_
   cases H
   cases HK1
   exact .m rfl (.rfl' _)
  ·obtain ⟨hk4,H⟩:=ck_some H
   refine .A 7 [.i (v7il1+1)] rfl (g_addI rfl rfl hk4) ?_
   cases H
   exact .z (ih1 (n1,(v7il1+1)) HK1 hm1) rfl rfl
 ·refine .A 5 [] rfl trivial ?_
  refine .R func33 results33 rfl ?_
  cases H
  cases HK1
  exact .m rfl (.rfl' _)
theorem c_f_r16_Check {v0:Intake} {r:Bool} (H:f_r16_Check v0=some r):ACall prog 12 [.agg (Intake.row v0)] (·=cB r):=by
 refine ACall.enter' func12 rfl ntmps12 rfl fun S hS=>?_
 unfold f_r16_Check at H
 obtain ⟨y1,hy1,H⟩:=bind_some' H
 obtain ⟨y2,hy2,H⟩:=bind_some' H
 obtain ⟨y3,hy3,H⟩:=bind_some' H
 obtain ⟨y4,hy4,H⟩:=bind_some' H
 refine .A 29 [.r 0,.b y1,.b y2,.b y3,.b y4] rfl ⟨rfl,rfl,fun hg=>g_call (en 69 rfl) rfl rfl (c_f_r16_counted (gcall_some hy4 hg)),rfl,rfl,rfl,fun hg=>g_call (en 70 rfl) rfl rfl (c_f_r15_Open (gcall_some hy3 hg)),rfl,rfl,rfl,rfl,fun hg=>g_call (en 71 rfl) rfl rfl (c_f_r14_Check (gcall_some hy2 hg)),rfl,rfl,g_call (en 72 rfl) rfl rfl (c_f_r16_heads (hy1))⟩ ?_
 refine .ite H rfl (fun H=>?_) (fun H=>?_)
 ·refine .A 4 [] rfl trivial ?_
  refine .R func12 results12 rfl ?_
  cases H
  exact .m rfl (.rfl' _)
 ·refine .A 7 [] rfl trivial ?_
  obtain ⟨n1,H⟩:=loop_some H
  refine .loop (ι:=Nat×(Int)) (fun ⟨_,v3l1⟩=>[(1,.ref 0 0),(3,.d (cI v3l1))]) (fun ⟨_,v3l1⟩=>⟨[.row 26 [.d (slOf 3 Range.row v0.seen),.d (slOf 12 Record.row v0.open_),.d (slOf 4 Head.row v0.heads)]],[]⟩) (fun p=>iter (fun s=>f_r16_Check_l1 v0 s) p.1 p.2=some r) (·.1) (n1,0) H (.cons rfl (.rfl' _) (.cons rfl (.rfl' _) (.nil))) rfl ?_
  rintro ⟨m1,v3l1⟩ HI ih1
  obtain ⟨n1,q1,hm1,H,HK1⟩:=iter_succ HI
  clear HI
  replace H:f_r16_Check_l1 v0 v3l1=some q1:=H
  unfold f_r16_Check_l1 at H
  refine .A 9 [.i (v0.open_.length:Int)] rfl (s23.n rfl rfl) ?_
  refine .ite H rfl (fun H=>?_) (fun H=>?_)
  ·obtain ⟨hk1,H⟩:=ck_some H
   obtain ⟨y5,hy5,H⟩:=bind_some' H
   refine .A 25 [.d (.ro (Record.row (nth v0.open_ v3l1.toNat))),.r 1,.b y5] rfl ⟨g_call (en 73 rfl) rfl rfl (c_f_r14_Has (hy5)),s23.ix rfl rfl rfl hk1⟩ ?_
   refine .ite H rfl (fun H=>?_) (fun H=>?_)
   ·refine .A 4 [] rfl trivial ?_
    refine .R func12 results12 rfl ?_
    cases H
    cases HK1
    exact .m rfl (.rfl' _)
   ·refine .A 6 [] rfl trivial ?_
    obtain ⟨n2,H⟩:=loop_some H
    refine .loop (ι:=Nat×(Int)) (fun ⟨_,v5l2⟩=>[(1,.ref 0 0),(3,.d (cI v3l1)),(4,.ref 1 0),(5,.d (cI v5l2))]) (fun ⟨_,v5l2⟩=>⟨[.row 26 [.d (slOf 3 Range.row v0.seen),.d (slOf 12 Record.row v0.open_),.d (slOf 4 Head.row v0.heads)],.row 49 [.d (cI ((nth v0.open_ v3l1.toNat).source)),.d (cI ((nth v0.open_ v3l1.toNat).serial)),.d (cI ((nth v0.open_ v3l1.toNat).kind)),.d (cS ((nth v0.open_ v3l1.toNat).a)),.d (cS ((nth v0.open_ v3l1.toNat).b)),.d (cI ((nth v0.open_ v3l1.toNat).start)),.d (cI ((nth v0.open_ v3l1.toNat).units)),.d (cI ((nth v0.open_ v3l1.toNat).call)),.d (cI ((nth v0.open_ v3l1.toNat).part)),.d (cB ((nth v0.open_ v3l1.toNat).last)),.d (cI ((nth v0.open_ v3l1.toNat).trunk)),.d (cB ((nth v0.open_ v3l1.toNat).inbound))]],[]⟩) (fun p=>iter (fun s=>f_r16_Check_l2 v0 v3l1 s) p.1 p.2=some q1) (·.1) (n2,0) H (.cons rfl (.rfl' _) (.cons rfl (.rfl' _) (.cons rfl (.rfl' _) (.cons rfl (.rfl' _) (.nil))))) rfl ?_
    rintro ⟨m2,v5l2⟩ HI ih2
    obtain ⟨n2,q2,hm2,H,HK2⟩:=iter_succ HI
    clear HI
    replace H:f_r16_Check_l2 v0 v3l1 v5l2=some q2:=H
    unfold f_r16_Check_l2 at H
    refine .A 7 [] rfl trivial ?_
    refine .ite H rfl (fun H=>?_) (fun H=>?_)
    ·obtain ⟨hk2,H⟩:=ck_some H
     obtain ⟨hk3,H⟩:=ck_some H
     refine .A 27 [.p 20,.d (.ro (Record.row (nth v0.open_ v5l2.toNat))),.d (.ro (Record.row (nth v0.open_ v5l2.toNat)))] rfl ⟨rfl,rfl,rfl,rfl,rfl,rfl,fun hg=>s23.ix rfl rfl rfl (hk3 hg),rfl,rfl,rfl,s23.ix rfl rfl rfl hk2,(show drawB _ _=true by kernel_rfl)⟩ ?_
     refine .ite H rfl (fun H=>?_) (fun H=>?_)
     ·refine .A 4 [] rfl trivial ?_
      refine .R func12 results12 rfl ?_
      cases H
      cases HK2
      cases HK1
      exact .m rfl (.rfl' _)
     ·obtain ⟨hk4,H⟩:=ck_some H
      refine .A 7 [.i (v5l2+1)] rfl (g_addI rfl rfl hk4) ?_
      cases H
      exact .z (ih2 (n2,(v5l2+1)) HK2 hm2) rfl rfl
    ·obtain ⟨hk5,H⟩:=ck_some H
     refine .A 7 [.i (v3l1+1)] rfl (g_addI rfl rfl hk5) ?_
     cases H
     cases HK2
     exact .t 1 0 (ih1 (n1,(v3l1+1)) HK1 hm1) rfl rfl rfl rfl rfl hS rfl
  ·refine .A 5 [] rfl trivial ?_
   refine .R func12 results12 rfl ?_
   cases H
   cases HK1
   exact .m rfl (.rfl' _)
set_option maxRecDepth 100000
set_option maxHeartbeats 1000000
theorem c_f_r12_Totals {v0records:List Record} {r:Totals} (H:f_r12_Totals v0records=some r):ACall prog 49 [slOf 12 Record.row v0records] (·=.agg (Totals.row r)):=by
 obtain ⟨i3,hi3,hz3,hs3,hb3⟩:=in_3
 obtain ⟨i84,hi84,hz84,hs84,hb84⟩:=in_84
 refine ACall.enter' func49 rfl ntmps49 rfl fun S hS=>?_
 unfold f_r12_Totals at H
 refine .A 18 [.r 0,.i (v0records.length:Int),.d (.agg (Totals.row (⟨(v0records.length:Int),([0,0,0,0,0]:List Int)⟩:Totals))),.r 1] rfl ⟨OpQ.g (q_buildP pl_84 hi84 hz84 rfl rfl),s23.n rfl rfl⟩ ?_
 obtain ⟨n1,H⟩:=loop_some H
 refine .loop (ι:=Nat×(Int×Int×Int×Int×Int×Int)) (fun ⟨_,v4il1,o1c1l1,o1c2l1,o1c3l1,o1c4l1,o1c5l1⟩=>[(0,.d (slOf 12 Record.row v0records)),(2,.ref 0 0),(3,.ref 1 0),(4,.d (cI v4il1))]) (fun ⟨_,v4il1,o1c1l1,o1c2l1,o1c3l1,o1c4l1,o1c5l1⟩=>⟨[.row 84 [.d (cI 0),.d (cI 0),.d (cI 0),.d (cI 0),.d (cI 0),.d (cI 0)],.row 84 [.d (cI (v0records.length:Int)),.d (cI o1c1l1),.d (cI o1c2l1),.d (cI o1c3l1),.d (cI o1c4l1),.d (cI o1c5l1)]],[]⟩) (fun p=>iter (fun s=>f_r12_Totals_l1 v0records s.1 s.2.1 s.2.2.1 s.2.2.2.1 s.2.2.2.2.1 s.2.2.2.2.2) p.1 p.2=some r) (·.1) (n1,(0,0,0,0,0,0)) H (.cons rfl (.rfl' _) (.cons rfl (.rfl' _) (.cons rfl (.rfl' _) (.cons rfl (.rfl' _) (.nil))))) rfl ?_
 rintro ⟨m1,v4il1,o1c1l1,o1c2l1,o1c3l1,o1c4l1,o1c5l1⟩ HI ih1
 obtain ⟨n1,q1,hm1,H,HK1⟩:=iter_succ HI
 clear HI
 replace H:f_r12_Totals_l1 v0records v4il1 o1c1l1 o1c2l1 o1c3l1 o1c4l1 o1c5l1=some q1:=H
 unfold f_r12_Totals_l1 at H
 refine .A 8 [.i (v0records.length:Int)] rfl (s23.n rfl rfl) ?_
 refine .ite H rfl (fun H=>?_) (fun H=>?_)
 ·obtain ⟨hk1,H⟩:=ck_some H
  refine .A 33 [.d (.ro (Record.row (nth v0records v4il1.toNat))),.r 2] rfl ⟨rfl,rfl,rfl,rfl,rfl,rfl,rfl,rfl,rfl,s23.ix rfl rfl rfl hk1⟩ ?_
  refine .ite H rfl (fun H=>?_) (fun H=>?_)
  ·obtain ⟨hk2,H⟩:=ck_some H
   obtain ⟨hk3,H⟩:=ck_some H
   obtain ⟨hk4,H⟩:=ck_some H
   obtain ⟨hk5,H⟩:=ck_some H
   obtain ⟨hk6,H⟩:=ck_some H
   obtain ⟨hk7,H⟩:=ck_some H
   refine .A 22 [.p 12,.g (.ref 1 (1+((nth v0records v4il1.toNat).kind).toNat)),.f 15 (.d (cI (nth ([o1c1l1,o1c2l1,o1c3l1,o1c4l1,o1c5l1]:List Int) ((nth v0records v4il1.toNat).kind).toNat))),.i ((nth ([o1c1l1,o1c2l1,o1c3l1,o1c4l1,o1c5l1]:List Int) ((nth v0records v4il1.toNat).kind).toNat)+((nth v0records v4il1.toNat).units)),.g (.ref 1 (1+((nth v0records v4il1.toNat).kind).toNat)),.w 8 ⟨[.row 84 [.d (cI 0),.d (cI 0),.d (cI 0),.d (cI 0),.d (cI 0),.d (cI 0)],.row 84 [.d (cI (v0records.length:Int)),.d (cI (nth (setN ([o1c1l1,o1c2l1,o1c3l1,o1c4l1,o1c5l1]:List Int) 5 ((nth v0records v4il1.toNat).kind).toNat ((nth ([o1c1l1,o1c2l1,o1c3l1,o1c4l1,o1c5l1]:List Int) ((nth v0records v4il1.toNat).kind).toNat)+((nth v0records v4il1.toNat).units))) 0)),.d (cI (nth (setN ([o1c1l1,o1c2l1,o1c3l1,o1c4l1,o1c5l1]:List Int) 5 ((nth v0records v4il1.toNat).kind).toNat ((nth ([o1c1l1,o1c2l1,o1c3l1,o1c4l1,o1c5l1]:List Int) ((nth v0records v4il1.toNat).kind).toNat)+((nth v0records v4il1.toNat).units))) 1)),.d (cI (nth (setN ([o1c1l1,o1c2l1,o1c3l1,o1c4l1,o1c5l1]:List Int) 5 ((nth v0records v4il1.toNat).kind).toNat ((nth ([o1c1l1,o1c2l1,o1c3l1,o1c4l1,o1c5l1]:List Int) ((nth v0records v4il1.toNat).kind).toNat)+((nth v0records v4il1.toNat).units))) 2)),.d (cI (nth (setN ([o1c1l1,o1c2l1,o1c3l1,o1c4l1,o1c5l1]:List Int) 5 ((nth v0records v4il1.toNat).kind).toNat ((nth ([o1c1l1,o1c2l1,o1c3l1,o1c4l1,o1c5l1]:List Int) ((nth v0records v4il1.toNat).kind).toNat)+((nth v0records v4il1.toNat).units))) 3)),.d (cI (nth (setN ([o1c1l1,o1c2l1,o1c3l1,o1c4l1,o1c5l1]:List Int) 5 ((nth v0records v4il1.toNat).kind).toNat ((nth ([o1c1l1,o1c2l1,o1c3l1,o1c4l1,o1c5l1]:List Int) ((nth v0records v4il1.toNat).kind).toNat)+((nth v0records v4il1.toNat).units))) 4))],.row 49 [.d (cI ((nth v0records v4il1.toNat).source)),.d (cI ((nth v0records v4il1.toNat).serial)),.d (cI ((nth v0records v4il1.toNat).kind)),.d (cS ((nth v0records v4il1.toNat).a)),.d (cS ((nth v0records v4il1.toNat).b)),.d (cI ((nth v0records v4il1.toNat).start)),.d (cI ((nth v0records v4il1.toNat).units)),.d (cI ((nth v0records v4il1.toNat).call)),.d (cI ((nth v0records v4il1.toNat).part)),.d (cB ((nth v0records v4il1.toNat).last)),.d (cI ((nth v0records v4il1.toNat).trunk)),.d (cB ((nth v0records v4il1.toNat).inbound))]],[]⟩,.i (v4il1+1)] rfl ⟨g_addI rfl rfl hk7,.e (u_storeK (n:=5) (off:=1) (i:=((nth v0records v4il1.toNat).kind).toNat) (l:=([o1c1l1,o1c2l1,o1c3l1,o1c4l1,o1c5l1]:List Int)) (c1:=cI) (a:=(nth ([o1c1l1,o1c2l1,o1c3l1,o1c4l1,o1c5l1]:List Int) ((nth v0records v4il1.toNat).kind).toNat)+((nth v0records v4il1.toNat).units)) rfl rfl rfl rfl rfl hk6 sz_3) rfl,OpQ.g (q_idxK (off:=1) (i:=(nth v0records v4il1.toNat).kind) underlying50 ⟨_,hi3,hs3⟩ rfl rfl hk5),g_addI rfl rfl hk4,OpQ.g (q_loadK (n:=5) (off:=1) (i:=((nth v0records v4il1.toNat).kind).toNat) (l:=([o1c1l1,o1c2l1,o1c3l1,o1c4l1,o1c5l1]:List Int)) (c1:=cI) one_3 rfl rfl rfl hk3),OpQ.g (q_idxK (off:=1) (i:=(nth v0records v4il1.toNat).kind) underlying50 ⟨_,hi3,hs3⟩ rfl rfl hk2),(show drawB _ _=true by kernel_rfl)⟩ ?_
   cases H
   exact .t 2 0 (ih1 (n1,(v4il1+1,nth (setN ([o1c1l1,o1c2l1,o1c3l1,o1c4l1,o1c5l1]:List Int) 5 ((nth v0records v4il1.toNat).kind).toNat ((nth ([o1c1l1,o1c2l1,o1c3l1,o1c4l1,o1c5l1]:List Int) ((nth v0records v4il1.toNat).kind).toNat)+((nth v0records v4il1.toNat).units))) 0,nth (setN ([o1c1l1,o1c2l1,o1c3l1,o1c4l1,o1c5l1]:List Int) 5 ((nth v0records v4il1.toNat).kind).toNat ((nth ([o1c1l1,o1c2l1,o1c3l1,o1c4l1,o1c5l1]:List Int) ((nth v0records v4il1.toNat).kind).toNat)+((nth v0records v4il1.toNat).units))) 1,nth (setN ([o1c1l1,o1c2l1,o1c3l1,o1c4l1,o1c5l1]:List Int) 5 ((nth v0records v4il1.toNat).kind).toNat ((nth ([o1c1l1,o1c2l1,o1c3l1,o1c4l1,o1c5l1]:List Int) ((nth v0records v4il1.toNat).kind).toNat)+((nth v0records v4il1.toNat).units))) 2,nth (setN ([o1c1l1,o1c2l1,o1c3l1,o1c4l1,o1c5l1]:List Int) 5 ((nth v0records v4il1.toNat).kind).toNat ((nth ([o1c1l1,o1c2l1,o1c3l1,o1c4l1,o1c5l1]:List Int) ((nth v0records v4il1.toNat).kind).toNat)+((nth v0records v4il1.toNat).units))) 3,nth (setN ([o1c1l1,o1c2l1,o1c3l1,o1c4l1,o1c5l1]:List Int) 5 ((nth v0records v4il1.toNat).kind).toNat ((nth ([o1c1l1,o1c2l1,o1c3l1,o1c4l1,o1c5l1]:List Int) ((nth v0records v4il1.toNat).kind).toNat)+((nth v0records v4il1.toNat).units))) 4)) HK1 hm1) rfl rfl rfl rfl rfl hS rfl
  ·obtain ⟨hk8,H⟩:=ck_some H
   refine .A 7 [.i (v4il1+1)] rfl (g_addI rfl rfl hk8) ?_
   cases H
   exact .t 2 0 (ih1 (n1,(v4il1+1,o1c1l1,o1c2l1,o1c3l1,o1c4l1,o1c5l1)) HK1 hm1) rfl rfl rfl rfl rfl hS rfl
 ·refine .A 6 [] rfl trivial ?_
  refine .R func49 results49 rfl ?_
  cases H
  cases HK1
  exact .m rfl (.rfl' _)
theorem c_f_r15_Units {v0list:List Record} {r:(List Int)} (H:f_r15_Units v0list=some r):ACall prog 21 [slOf 12 Record.row v0list] (·=.agg [cI (nth r 0),cI (nth r 1),cI (nth r 2),cI (nth r 3),cI (nth r 4)]):=by
 refine ACall.enter' func21 rfl ntmps21 rfl fun S hS=>?_
 unfold f_r15_Units at H
 obtain ⟨y1,hy1,H⟩:=bind_some' H
 refine .A 11 [.r 0,.d (.agg (Totals.row y1)),.d (.agg [cI (nth y1.units 0),cI (nth y1.units 1),cI (nth y1.units 2),cI (nth y1.units 3),cI (nth y1.units 4)])] rfl ⟨OpQ.g (q_fieldB underlying84 rfl one_50 sz_50 rfl rfl rfl rfl),g_call (en 91 rfl) rfl rfl (c_f_r12_Totals (hy1))⟩ ?_
 refine .R func21 results21 rfl ?_
 cases H
 exact .m rfl (.rfl' _)
set_option maxRecDepth 100000
set_option maxHeartbeats 1000000
theorem c_f_w16_IntakePlaces {v0:Intake} {v1:Batch} {v2:Window} {r:Bool} (H:f_w16_IntakePlaces v0 v1 v2=some r):ACall prog 5 [.agg (Intake.row v0),.agg (Batch.row v1),.agg (Window.row v2)] (·=cB r):=by
 obtain ⟨i49,hi49,hz49,hs49,hb49⟩:=in_49
 refine ACall.enter' func5 rfl ntmps5 rfl fun S hS=>?_
 unfold f_w16_IntakePlaces at H
 obtain ⟨y1,hy1,H⟩:=bind_some' H
 obtain ⟨y2,hy2,H⟩:=bind_some' H
 obtain ⟨y3,hy3,H⟩:=bind_some' H
 refine .A 25 [.r 0,.r 1,.r 2,.b y1,.b y2,.b y3] rfl ⟨rfl,rfl,fun hg=>g_call (en 76 rfl) rfl rfl (c_f_r16_Check (gcall_some hy3 hg)),rfl,rfl,rfl,fun hg=>g_call (en 0 rfl) rfl rfl (c_f_w16_few (gcall_some hy2 hg)),rfl,rfl,g_call (en 74 rfl) rfl rfl (c_f_w16_small (hy1))⟩ ?_
 refine .ite H rfl (fun H=>?_) (fun H=>?_)
 ·obtain ⟨y4,hy4,H⟩:=bind_some' H
  refine .A 5 [.b y4] rfl (g_call (en 75 rfl) rfl rfl (c_f_w16_awake (hy4))) ?_
  refine .R func5 results5 rfl ?_
  cases H
  exact .m rfl (.rfl' _)
 ·obtain ⟨y5,hy5,H⟩:=bind_some' H
  refine .A 24 [.d (.tup [.agg (Intake.row y5.1),slOf 12 Record.row y5.2.1,slOf 4 Reject.row y5.2.2.1,cI y5.2.2.2]),.r 3] rfl (g_call (en 55 rfl) rfl rfl (c_f_intake_Accept (hy5))) ?_
  refine .ite H rfl (fun H=>?_) (fun H=>?_)
  ·obtain ⟨y6,hy6,H⟩:=bind_some' H
   refine .A 15 [.i (y5.2.1.length:Int),.i (y5.2.2.1.length:Int),.b y6] rfl ⟨rfl,fun hg=>g_call (en 75 rfl) rfl rfl (c_f_w16_awake (gcall_some hy6 hg)),rfl,rfl,fun hg=>s38.n rfl rfl,rfl,s23.n rfl rfl⟩ ?_
   refine .R func5 results5 rfl ?_
   cases H
   exact .m rfl (.rfl' _)
  ·refine .A 10 [] rfl trivial ?_
   refine .tok (i:=11) (e:=49) (sz:=12) rfl ?_
   refine .blockJoin2 (ι:=List Record) (fun v11j1=>[(3,.ref 0 0),(4,.ref 1 0),(7,.ref 3 0),(8,.d (slOf 12 Record.row y5.2.1)),(11,.tsl 12 (v11j1.map Record.row) 0)]) (fun v11j1=>⟨[.row 26 [.d (slOf 3 Range.row v0.seen),.d (slOf 12 Record.row v0.open_),.d (slOf 4 Head.row v0.heads)],.row 34 [.d (cI v1.source),.d (cI v1.number),.d (cI v1.format),.d (slOf 12 Record.row v1.records)],.row 36 [.d (cI v2.earliest),.d (cI v2.latest)],.row 26 [.d (slOf 3 Range.row y5.1.seen),.d (slOf 12 Record.row y5.1.open_),.d (slOf 4 Head.row y5.1.heads)]],[⟨49,12,v11j1.length,none⟩]⟩) (fun s=>f_w16_IntakePlaces_j1 v0 v1 y5 s=some r) ?_ ?_
   ·rintro v11j1 H
    replace H:f_w16_IntakePlaces_j1 v0 v1 y5 v11j1=some r:=H
    unfold f_w16_IntakePlaces_j1 at H
    refine .A 1 [] rfl trivial ?_
    refine .tokP (e:=49) (sz:=12) ?_
    refine .tokP (e:=49) (sz:=12) ?_
    obtain ⟨hk1,H⟩:=ck_some H
    obtain ⟨hk2,H⟩:=ck_some H
    obtain ⟨hk3,H⟩:=ck_some H
    refine .parts 12 [3,6,10] [⟨[.row 26 [.d (slOf 3 Range.row v0.seen),.d (slOf 12 Record.row v0.open_),.d (slOf 4 Head.row v0.heads)],.row 34 [.d (cI v1.source),.d (cI v1.number),.d (cI v1.format),.d (slOf 12 Record.row v1.records)],.row 36 [.d (cI v2.earliest),.d (cI v2.latest)],.row 26 [.d (slOf 3 Range.row y5.1.seen),.d (slOf 12 Record.row y5.1.open_),.d (slOf 4 Head.row y5.1.heads)]],[⟨49,12,v11j1.length,none⟩,⟨49,12,0,some (([]:List Record).map Record.row)⟩,⟨49,12,0,some (([]:List Record).map Record.row)⟩]⟩,⟨[.row 26 [.d (slOf 3 Range.row v0.seen),.d (slOf 12 Record.row v0.open_),.d (slOf 4 Head.row v0.heads)],.row 34 [.d (cI v1.source),.d (cI v1.number),.d (cI v1.format),.d (slOf 12 Record.row v1.records)],.row 36 [.d (cI v2.earliest),.d (cI v2.latest)],.row 26 [.d (slOf 3 Range.row y5.1.seen),.d (slOf 12 Record.row y5.1.open_),.d (slOf 4 Head.row y5.1.heads)]],[⟨49,12,v11j1.length,none⟩,⟨49,12,((([]:List Record)++v0.open_).length),some ((([]:List Record)++v0.open_).map Record.row)⟩,⟨49,12,0,some (([]:List Record).map Record.row)⟩]⟩,⟨[.row 26 [.d (slOf 3 Range.row v0.seen),.d (slOf 12 Record.row v0.open_),.d (slOf 4 Head.row v0.heads)],.row 34 [.d (cI v1.source),.d (cI v1.number),.d (cI v1.format),.d (slOf 12 Record.row v1.records)],.row 36 [.d (cI v2.earliest),.d (cI v2.latest)],.row 26 [.d (slOf 3 Range.row y5.1.seen),.d (slOf 12 Record.row y5.1.open_),.d (slOf 4 Head.row y5.1.heads)]],[⟨49,12,v11j1.length,none⟩,⟨49,12,0,some (([]:List Record).map Record.row)⟩,⟨49,12,0,some (([]:List Record).map Record.row)⟩]⟩,⟨[.row 26 [.d (slOf 3 Range.row v0.seen),.d (slOf 12 Record.row v0.open_),.d (slOf 4 Head.row v0.heads)],.row 34 [.d (cI v1.source),.d (cI v1.number),.d (cI v1.format),.d (slOf 12 Record.row v1.records)],.row 36 [.d (cI v2.earliest),.d (cI v2.latest)],.row 26 [.d (slOf 3 Range.row y5.1.seen),.d (slOf 12 Record.row y5.1.open_),.d (slOf 4 Head.row y5.1.heads)]],[⟨49,12,v11j1.length,none⟩,⟨49,12,(((([]:List Record)++v0.open_)++v1.records).length),some (((([]:List Record)++v0.open_)++v1.records).map Record.row)⟩,⟨49,12,0,some (([]:List Record).map Record.row)⟩]⟩,⟨[.row 26 [.d (slOf 3 Range.row v0.seen),.d (slOf 12 Record.row v0.open_),.d (slOf 4 Head.row v0.heads)],.row 34 [.d (cI v1.source),.d (cI v1.number),.d (cI v1.format),.d (slOf 12 Record.row v1.records)],.row 36 [.d (cI v2.earliest),.d (cI v2.latest)],.row 26 [.d (slOf 3 Range.row y5.1.seen),.d (slOf 12 Record.row y5.1.open_),.d (slOf 4 Head.row y5.1.heads)]],[⟨49,12,v11j1.length,none⟩,⟨49,12,0,some (([]:List Record).map Record.row)⟩,⟨49,12,0,some (([]:List Record).map Record.row)⟩]⟩,⟨[.row 26 [.d (slOf 3 Range.row v0.seen),.d (slOf 12 Record.row v0.open_),.d (slOf 4 Head.row v0.heads)],.row 34 [.d (cI v1.source),.d (cI v1.number),.d (cI v1.format),.d (slOf 12 Record.row v1.records)],.row 36 [.d (cI v2.earliest),.d (cI v2.latest)],.row 26 [.d (slOf 3 Range.row y5.1.seen),.d (slOf 12 Record.row y5.1.open_),.d (slOf 4 Head.row y5.1.heads)]],[⟨49,12,v11j1.length,none⟩,⟨49,12,0,some (([]:List Record).map Record.row)⟩,⟨49,12,0,some (([]:List Record).map Record.row)⟩]⟩,⟨[.row 26 [.d (slOf 3 Range.row v0.seen),.d (slOf 12 Record.row v0.open_),.d (slOf 4 Head.row v0.heads)],.row 34 [.d (cI v1.source),.d (cI v1.number),.d (cI v1.format),.d (slOf 12 Record.row v1.records)],.row 36 [.d (cI v2.earliest),.d (cI v2.latest)],.row 26 [.d (slOf 3 Range.row y5.1.seen),.d (slOf 12 Record.row y5.1.open_),.d (slOf 4 Head.row y5.1.heads)]],[⟨49,12,v11j1.length,none⟩,⟨49,12,0,some (([]:List Record).map Record.row)⟩,⟨49,12,0,some (([]:List Record).map Record.row)⟩]⟩,⟨[.row 26 [.d (slOf 3 Range.row v0.seen),.d (slOf 12 Record.row v0.open_),.d (slOf 4 Head.row v0.heads)],.row 34 [.d (cI v1.source),.d (cI v1.number),.d (cI v1.format),.d (slOf 12 Record.row v1.records)],.row 36 [.d (cI v2.earliest),.d (cI v2.latest)],.row 26 [.d (slOf 3 Range.row y5.1.seen),.d (slOf 12 Record.row y5.1.open_),.d (slOf 4 Head.row y5.1.heads)]],[⟨49,12,v11j1.length,none⟩,⟨49,12,(((([]:List Record)++v0.open_)++v1.records).length),some (((([]:List Record)++v0.open_)++v1.records).map Record.row)⟩,⟨49,12,((([]:List Record)++y5.1.open_).length),some ((([]:List Record)++y5.1.open_).map Record.row)⟩]⟩] hMix (by kernel_rfl) rfl (by decide) rfl ?_
    show NOps _ _ _ _ _ _ _ _ _ _ (_ :: _) _ _
    refine .g (x:=.d (.e0 12)) [0] ⟨⟨_,rfl,(hs49▸g_buildSlice0 underlying23 hi49)⟩,trivial⟩ rfl (by kernel_rfl) rfl ?_
    refine .s (x:=.ref 0 1) (fun s=>q_fieldRef fo_26_1 rfl) rfl rfl ?_
    refine .g (x:=.d (slOf 12 Record.row v0.open_)) [0] ⟨⟨_,rfl,OpQ.g (q_loadO one_23 rfl rfl rfl)⟩,trivial⟩ rfl (by kernel_rfl) rfl ?_
    refine .v (x:=.vc 1 ((([]:List Record)++v0.open_).length)) 0 [0] ⟨⟨_,_,rfl,rfl,v_append0P (l':=v0.open_) (row:=Record.row) underlying23 hi49 hz49 hs49 rfl (by rw [hb49]; decide) rfl (.inl rfl) rfl rfl rfl hk1⟩,trivial⟩ rfl (by kernel_rfl) rfl ?_
    refine .s (x:=.ref 1 3) (fun s=>q_fieldRef fo_34_3 rfl) rfl rfl ?_
    refine .g (x:=.d (slOf 12 Record.row v1.records)) [0,1] ⟨⟨_,rfl,OpQ.g (q_loadO one_23 rfl rfl rfl)⟩,⟨_,rfl,OpQ.g (q_loadO one_23 rfl rfl rfl)⟩,trivial⟩ rfl (by kernel_rfl) rfl ?_
    refine .v (x:=.vc 1 (((([]:List Record)++v0.open_)++v1.records).length)) 1 [1] ⟨⟨_,_,rfl,rfl,v_appendV (l:=([]:List Record)++v0.open_) (l':=v1.records) (row:=Record.row) underlying23 hi49 hz49 hs49 rfl (by rw [hb49]; decide) rfl rfl rfl rfl hk2⟩,trivial⟩ rfl (by kernel_rfl) rfl ?_
    refine .g (x:=.d (.e0 12)) [0,1,3] ⟨⟨_,rfl,(hs49▸g_buildSlice0 underlying23 hi49)⟩,⟨_,rfl,(hs49▸g_buildSlice0 underlying23 hi49)⟩,⟨_,rfl,(hs49▸g_buildSlice0 underlying23 hi49)⟩,trivial⟩ rfl (by kernel_rfl) rfl ?_
    refine .s (x:=.ref 3 1) (fun s=>q_fieldRef fo_26_1 rfl) rfl rfl ?_
    refine .g (x:=.d (slOf 12 Record.row y5.1.open_)) [0,1,3] ⟨⟨_,rfl,OpQ.g (q_loadO one_23 rfl rfl rfl)⟩,⟨_,rfl,OpQ.g (q_loadO one_23 rfl rfl rfl)⟩,⟨_,rfl,OpQ.g (q_loadO one_23 rfl rfl rfl)⟩,trivial⟩ rfl (by kernel_rfl) rfl ?_
    refine .v (x:=.vc 2 ((([]:List Record)++y5.1.open_).length)) 2 [3] ⟨⟨_,_,rfl,rfl,v_append0P (l':=y5.1.open_) (row:=Record.row) underlying23 hi49 hz49 hs49 rfl (by rw [hb49]; decide) rfl (.inl rfl) rfl rfl rfl hk3⟩,trivial⟩ rfl (by kernel_rfl) rfl ?_
    refine .s (x:=.d (slOf 12 Record.row y5.2.1)) (fun s=>q_move rfl) rfl rfl ?_
    refine .nil rfl ?_
    show AOps _ _ _ _ _ _ (_ :: _) _ _ _
    obtain ⟨hk4,H⟩:=ck_some H
    obtain ⟨hk5,H⟩:=ck_some H
    refine .B 14 [.t (.vc 2 (((([]:List Record)++y5.1.open_)++y5.2.1).length)) 2 ⟨49,12,(((([]:List Record)++y5.1.open_)++y5.2.1).length),some (((([]:List Record)++y5.1.open_)++y5.2.1).map Record.row)⟩,.t (.vc 2 ((((([]:List Record)++y5.1.open_)++y5.2.1)++v11j1).length)) 2 ⟨49,12,((((([]:List Record)++y5.1.open_)++y5.2.1)++v11j1).length),some ((((([]:List Record)++y5.1.open_)++y5.2.1)++v11j1).map Record.row)⟩] rfl ⟨.e (v_appendV (l:=(([]:List Record)++y5.1.open_)++y5.2.1) (l':=v11j1) (row:=Record.row) underlying23 hi49 hz49 hs49 rfl (by rw [hb49]; decide) rfl rfl rfl rfl hk5) rfl,.e (v_appendV (l:=([]:List Record)++y5.1.open_) (l':=y5.2.1) (row:=Record.row) underlying23 hi49 hz49 hs49 rfl (by rw [hb49]; decide) rfl rfl rfl rfl hk4) rfl⟩ ?_
    refine .freezeL (l:=(([]:List Record)++v0.open_)++v1.records) (row:=Record.row) (i:=125) rfl rfl ?_
    obtain ⟨y7,hy7,H⟩:=bind_some' H
    refine .B 2 [.d (.agg [cI (nth y7 0),cI (nth y7 1),cI (nth y7 2),cI (nth y7 3),cI (nth y7 4)])] rfl (g_call (en 92 rfl) rfl rfl (c_f_r15_Units (hy7))) ?_
    refine .freezeL (l:=((([]:List Record)++y5.1.open_)++y5.2.1)++v11j1) (row:=Record.row) (i:=127) rfl rfl ?_
    obtain ⟨y8,hy8,H⟩:=bind_some' H
    obtain ⟨y9,hy9,H⟩:=bind_some' H
    refine .A 7 [.d (.agg [cI (nth y8 0),cI (nth y8 1),cI (nth y8 2),cI (nth y8 3),cI (nth y8 4)]),.b (eqVs [.int .i64 (nth y7 0),.int .i64 (nth y7 1),.int .i64 (nth y7 2),.int .i64 (nth y7 3),.int .i64 (nth y7 4)] [.int .i64 (nth y8 0),.int .i64 (nth y8 1),.int .i64 (nth y8 2),.int .i64 (nth y8 3),.int .i64 (nth y8 4)]),.b y9] rfl ⟨rfl,fun hg=>g_call (en 75 rfl) rfl rfl (c_f_w16_awake (gcall_some hy9 hg)),OpQ.g (q_gteql fg_50 rfl rfl (xs:=[.int .i64 (nth y7 0),.int .i64 (nth y7 1),.int .i64 (nth y7 2),.int .i64 (nth y7 3),.int .i64 (nth y7 4)]) (ys:=[.int .i64 (nth y8 0),.int .i64 (nth y8 1),.int .i64 (nth y8 2),.int .i64 (nth y8 3),.int .i64 (nth y8 4)]) rfl rfl rfl rfl),g_call (en 92 rfl) rfl rfl (c_f_r15_Units (hy8))⟩ ?_
    refine .R func5 results5 rfl ?_
    cases H
    exact .m rfl (.rfl' _)
   ·intro hj1 hj1x
    obtain ⟨n1,H⟩:=loop_some H
    refine .loop (ι:=Nat×(List Record×Int)) (fun ⟨_,v11l1,v12l1⟩=>[(3,.ref 0 0),(4,.ref 1 0),(7,.ref 3 0),(8,.d (slOf 12 Record.row y5.2.1)),(9,.d (slOf 4 Reject.row y5.2.2.1)),(11,.tsl 12 (v11l1.map Record.row) 0),(12,.d (cI v12l1))]) (fun ⟨_,v11l1,v12l1⟩=>⟨[.row 26 [.d (slOf 3 Range.row v0.seen),.d (slOf 12 Record.row v0.open_),.d (slOf 4 Head.row v0.heads)],.row 34 [.d (cI v1.source),.d (cI v1.number),.d (cI v1.format),.d (slOf 12 Record.row v1.records)],.row 36 [.d (cI v2.earliest),.d (cI v2.latest)],.row 26 [.d (slOf 3 Range.row y5.1.seen),.d (slOf 12 Record.row y5.1.open_),.d (slOf 4 Head.row y5.1.heads)]],[⟨49,12,v11l1.length,none⟩]⟩) (fun p=>iter (fun s=>f_w16_IntakePlaces_l1 v0 v1 y5 s.1 s.2) p.1 p.2=some r) (·.1) (n1,(([]:List Record),0)) H (.cons rfl (.rfl' _) (.cons rfl (.rfl' _) (.cons rfl (.rfl' _) (.cons rfl (.rfl' _) (.cons rfl (.rfl' _) (.cons rfl (.rfl' _) (.cons rfl (.rfl' _) (.nil)))))))) rfl ?_
    rintro ⟨m1,v11l1,v12l1⟩ HI ih1
    obtain ⟨n1,q1,hm1,H,HK1⟩:=iter_succ HI
    clear HI
    replace H:f_w16_IntakePlaces_l1 v0 v1 y5 v11l1 v12l1=some q1:=H
    unfold f_w16_IntakePlaces_l1 at H
    refine .A 8 [.i (y5.2.2.1.length:Int)] rfl (s38.n rfl rfl) ?_
    refine .ite H rfl (fun H=>?_) (fun H=>?_)
    ·obtain ⟨hk6,H⟩:=ck_some H
     obtain ⟨hk7,H⟩:=ck_some H
     obtain ⟨hk8,H⟩:=ck_some H
     refine .C 36 [.d (.ro (Reject.row (nth y5.2.2.1 v12l1.toNat))),.p 37,.i (v1.records.length:Int),.i (v12l1-1),.d (.ro (Reject.row (nth y5.2.2.1 (v12l1-1).toNat)))] rfl ⟨rfl,rfl,rfl,rfl,fun hg=>s38.ix rfl rfl rfl (hk8 hg),rfl,rfl,fun hg=>g_subI rfl rfl (hk7 hg),rfl,rfl,rfl,rfl,rfl,rfl,fun hg=>s23.n rfl rfl,rfl,rfl,(show drawB _ _=true by kernel_rfl),s38.ix rfl rfl rfl hk6⟩ ?_
     refine .guardG (env':=[(76,_),(84,_)]) rfl rfl rfl ⟨.inr (.inl rfl),⟨.inr (.inr ⟨_,_,rfl,rfl⟩),trivial⟩⟩ rfl (fun hg=>OpQ.g (q_pickAndB rfl rfl rfl)) ?_
     obtain ⟨hk9,H⟩:=ck_some H
     obtain ⟨hk10,H⟩:=ck_some H
     refine .A 17 [.d (.ro (Record.row (nth v1.records ((nth y5.2.2.1 v12l1.toNat).index).toNat))),.d (.ro (Reject.row (nth y5.2.2.1 v12l1.toNat)))] rfl ⟨rfl,rfl,rfl,rfl,rfl,fun hg=>s38.ix rfl rfl rfl (hk10 hg),rfl,rfl,rfl,rfl,fun hg=>s23.ix rfl rfl rfl (hk9 hg),rfl,rfl,rfl,rfl⟩ ?_
     refine .ite H rfl (fun H=>?_) (fun H=>?_)
     ·refine .A 4 [] rfl trivial ?_
      refine .R func5 results5 rfl ?_
      cases H
      cases HK1
      exact .m rfl (.rfl' _)
     ·obtain ⟨hk11,H⟩:=ck_some H
      obtain ⟨hk12,H⟩:=ck_some H
      obtain ⟨hk13,H⟩:=ck_some H
      refine .A 18 [.d (.ro (Record.row (nth v1.records ((nth y5.2.2.1 v12l1.toNat).index).toNat))),.d (slOf 12 Record.row ([nth v1.records ((nth y5.2.2.1 v12l1.toNat).index).toNat]:List Record)),.a 0 49 12 Record.row (v11l1++([nth v1.records ((nth y5.2.2.1 v12l1.toNat).index).toNat]:List Record)),.i (v12l1+1)] rfl ⟨g_addI rfl rfl hk13,s23.a rfl rfl rfl rfl hk12,g_buildSlice1 underlying23 hi49 hs49 hz49 rfl rfl rfl rfl rfl,s23.ix rfl rfl rfl hk11⟩ ?_
      cases H
      exact .z (ih1 (n1,(v11l1++([nth v1.records ((nth y5.2.2.1 v12l1.toNat).index).toNat]:List Record),v12l1+1)) HK1 hm1) rfl rfl
    ·refine .A 1 [] rfl trivial ?_
     obtain ⟨q0,H9,hq0⟩:=map_some' H; clear H; cases hq0
     cases HK1
     have H:=H9
     exact .z (hj1x v11l1 H) rfl rfl
set_option maxRecDepth 100000
set_option maxHeartbeats 1000000
end Go.Proofs.YtpnegjippkneoaaGreatDoor
namespace Go.Proofs.YtpnegjippkneoaaGreatDoor
open Go.RowKit Go.Abs
theorem gcall_mk {α:Type} [Inhabited α] {b:Bool} {x:α}:gcall b (some x)=some (if b=true then x else default):=by
 unfold gcall; split <;> rfl
theorem loop_all {α R:Type} [Inhabited α] {step:Int→Option (Int ⊕ R)} (l:List α) (p:α→Bool) (fin bad:R) (hl:l.length < 18446744073709551616)
  (h1:∀ i:Int,0≤i→i < (l.length:Int)→step i=some (if p (nth l i.toNat)=true then .inl (i+1) else .inr bad)) (h2:∀ i:Int,i=(l.length:Int)→step i=some (.inr fin)):loop step 0=some (if l.all p=true then fin else bad):=by
 have:=loop_spec (step:=step) (fun i:Int=>some (if (l.drop i.toNat).all p=true then fin else bad)) (fun i=>0≤i∧i≤(l.length:Int)) (fun i=>((l.length:Int) - i).toNat) (fun i hI=>by
  by_cases hi:i < (l.length:Int)
  ·have hd:=drop_nth (l:=l) (k:=i.toNat) (by omega)
   rw [h1 i hI.1 hi]
   by_cases hp:p (nth l i.toNat)=true
   ·rw [if_pos hp]
    refine .inr ⟨i+1,rfl,⟨by omega,by omega⟩,by omega,?_⟩
    rw [show (i+1).toNat=i.toNat+1 from by omega,hd]
    simp [hp]
   ·rw [if_neg hp]
    refine .inl ⟨bad,rfl,?_⟩
    rw [hd]
    simp [hp]
  ·have:i=(l.length:Int):=by omega
   refine .inl ⟨fin,h2 i this,?_⟩
   rw [List.drop_of_length_le (by omega)]
   simp) (s:=0) ⟨by omega,by omega⟩ (by omega)
 simpa using this
def isDig (c:UInt8):Bool:=decide (48≤c) && decide (c≤57)
def validB (s:List UInt8):Bool:=s.all isDig && decide (1≤s.length) && decide (s.length≤15)
theorem p_Valid (s:List UInt8) (hl:s.length < 1000000000):f_digits_Valid s=some (validB s):=by
 unfold f_digits_Valid
 rw [loop_all s isDig (decide ((s.length:Int)≥1) && decide ((s.length:Int)≤15)) false (by omega) (fun i h0 h1=>?_) (fun i hi=>?_)]
 ·unfold validB
  cases s.all isDig <;> simp
  rw [Bool.eq_iff_iff]; simp; omega
 ·unfold f_digits_Valid_l1 f_digits_digit
  rw [if_pos (by simpa using h1),ck_pos (by omega)]
  simp only [Option.bind_some]
  rw [ck_pos (by omega)]
  unfold isDig
  simp only [ge_iff_le]
  cases decide (48≤nth s i.toNat) <;> cases decide (nth s i.toNat≤57) <;> rfl
 ·unfold f_digits_Valid_l1 f_digits_Valid_j1
  rw [if_neg (by simp; omega)]
  rfl
theorem p_rValid (s:List UInt8) (hl:s.length < 1000000000):f_r02_Valid s=some (validB s):=by
 unfold f_r02_Valid
 rw [loop_all s isDig (decide ((s.length:Int)≥1) && decide ((s.length:Int)≤15)) false (by omega) (fun i h0 h1=>?_) (fun i hi=>?_)]
 ·unfold validB
  cases s.all isDig <;> simp
  rw [Bool.eq_iff_iff]; simp; omega
 ·unfold f_r02_Valid_l1
  rw [if_pos (by simpa using h1),ck_pos (by omega),ck_pos (by omega),ck_pos (by omega)]
  unfold isDig
  have e1:decide (nth s i.toNat < 48)=!decide (48≤nth s i.toNat):=by rw [←decide_not]; simp
  have e2:decide (nth s i.toNat > 57)=!decide (nth s i.toNat≤57):=by rw [←decide_not]; simp
  rw [e1,e2]
  cases decide (48≤nth s i.toNat) <;> cases decide (nth s i.toNat≤57) <;> rfl
 ·unfold f_r02_Valid_l1 f_r02_Valid_j1
  rw [if_neg (by simp; omega)]
  rfl
def errF (r:Record):Int :=
 if ¬(1≤r.source∧r.source≤99∧1≤r.serial∧r.serial≤999999999) then 6
 else if ¬(1≤r.kind∧r.kind≤4) then 7
 else if validB r.a=false∨(validB r.b=false∧¬((r.kind=3∨r.kind=4)∧r.b=[])) then 12
 else if ¬(0≤r.start∧r.start≤12622780799) then 15
 else if ¬(0≤r.units∧r.units≤1099511627776)∨(r.kind=1∧r.units > 604800) then 6
 else if r.kind=1∧r.start+r.units > 12622780800 then 15
 else if ¬(0≤r.call∧r.call≤999999999∧0≤r.part∧r.part≤99) then 6
 else if ¬(r.part=0↔r.call=0)∨(r.last=true∧r.part=0) then 8
 else if ¬(0≤r.trunk∧r.trunk≤999) then 6
 else if r.inbound=true∧r.trunk=0 then 8
 else 0
theorem ite_same {α:Type} {b:Bool} {p:Prop} [Decidable p] {x y x' y':α} (h:b=true↔p) (hx:p→x=x') (hy:¬p→y=y'):(if b=true then x else y)=if p then x' else y':=by
 by_cases hp:p
 ·rw [if_pos hp,if_pos (h.2 hp),hx hp]
 ·rw [if_neg hp,if_neg (fun hb=>hp (h.1 hb)),hy hp]
theorem ite_some {α:Type} {p:Prop} [Decidable p] {x y:α}:(if p then some x else some y)=some (if p then x else y):=by split <;> rfl
theorem p_check (r:Record) (ha:r.a.length < 1000000000) (hb:r.b.length < 1000000000):f_textual_check r=some (errF r):=by
 have key:∀ m,(m=1099511627776∧r.kind≠1)∨(m=604800∧r.kind=1)→f_textual_check_j1 r m=some (errF r):=by
  intro m hm
  unfold f_textual_check_j1 errF
  simp only [f_textual_within,p_Valid _ ha,p_Valid _ hb,Option.bind_some,gcall_mk]
  simp only [←ite_some]
  refine ite_same (by simp; grind) (fun _=>rfl) (fun h1=>?_)
  refine ite_same (by simp; grind) (fun _=>rfl) (fun h2=>?_)
  refine ite_same (by simp; grind) (fun _=>rfl) (fun h3=>?_)
  refine ite_same (by simp; grind) (fun _=>rfl) (fun h4=>?_)
  refine ite_same (by simp; grind) (fun _=>rfl) (fun h5=>?_)
  rw [ck_pos (by omega)]
  refine ite_same (by simp) (fun _=>rfl) (fun h6=>?_)
  refine ite_same (by simp; grind) (fun _=>rfl) (fun h7=>?_)
  refine ite_same (by simp; grind) (fun _=>rfl) (fun h8=>?_)
  refine ite_same (by simp; grind) (fun _=>rfl) (fun h9=>?_)
  refine ite_same (by simp) (fun _=>rfl) (fun h10=>rfl)
 unfold f_textual_check
 split
 ·rename_i h
  exact key _ (.inr ⟨rfl,by simpa using h⟩)
 ·rename_i h
  exact key _ (.inl ⟨rfl,by simpa using h⟩)
theorem p_rError (r:Record) (ha:r.a.length < 1000000000) (hb:r.b.length < 1000000000):f_r09_Error r=some (errF r):=by
 unfold f_r09_Error errF
 simp only [f_r09_in,p_rValid _ ha,p_rValid _ hb,Option.bind_some,gcall_mk]
 simp only [←ite_some]
 refine ite_same (by simp; grind) (fun _=>rfl) (fun h1=>?_)
 refine ite_same (by simp; grind) (fun _=>rfl) (fun h2=>?_)
 by_cases hva:validB r.a=true
 ·rw [if_neg (by simp [hva])]
  refine ite_same (by simp [hva]; grind) (fun _=>rfl) (fun h3=>?_)
  refine ite_same (by simp; grind) (fun _=>rfl) (fun h4=>?_)
  refine ite_same (by simp; grind) (fun _=>rfl) (fun h5=>?_)
  rw [ck_pos (by omega)]
  refine ite_same (by simp) (fun _=>rfl) (fun h6=>?_)
  refine ite_same (by simp; grind) (fun _=>rfl) (fun h7=>?_)
  refine ite_same (by simp; grind) (fun _=>rfl) (fun h8=>?_)
  refine ite_same (by simp; grind) (fun _=>rfl) (fun h9=>?_)
  refine ite_same (by simp) (fun _=>rfl) (fun h10=>rfl)
 ·rw [if_pos (by simp [hva]),if_pos (by simp [hva])]
structure Good (r:Record):Prop where
 source:1≤r.source∧r.source≤99
 serial:1≤r.serial∧r.serial≤999999999
 kind:1≤r.kind∧r.kind≤4
 a:validB r.a=true
 b:validB r.b=true∨(r.kind=3∨r.kind=4)∧r.b=[]
 start:0≤r.start∧r.start≤12622780799
 units:0≤r.units∧r.units≤1099511627776
 call:0≤r.call∧r.call≤999999999
 part:0≤r.part∧r.part≤99
 trunk:0≤r.trunk∧r.trunk≤999
theorem errF_good {r:Record} (h:errF r=0):Good r:=by
 unfold errF at h
 split at h; · cases h
 split at h; · cases h
 split at h; · cases h
 split at h; · cases h
 split at h; · cases h
 split at h; · cases h
 split at h; · cases h
 split at h; · cases h
 split at h; · cases h
 split at h; · cases h
 rename_i h1 h2 h3 h4 h5 h6 h7 h8 h9 h10
 refine ⟨by omega,by omega,by omega,?_,?_,by omega,by omega,by omega,by omega,by omega⟩
 ·cases hv:validB r.a with
  | true=>rfl
  | false=>exact absurd (.inl hv) h3
 ·cases hv:validB r.b with
  | true=>exact .inl rfl
  | false =>
   right
   by_cases hh:(r.kind=3∨r.kind=4)∧r.b=[]
   ·exact hh
   ·exact absurd (.inr ⟨hv,hh⟩) h3
theorem validB_len {s:List UInt8} (h:validB s=true):s.length≤15:=by
 unfold validB at h
 simp at h
 exact h.2
def headF (r:Record):List (List UInt8):=[(([118,116,100,99]:List UInt8).take r.kind.toNat).drop (r.kind-1).toNat,Go.Lib.itoa r.source,Go.Lib.itoa r.serial,r.a,if r.b=[] then [45] else r.b,Go.Lib.itoa r.start,Go.Lib.itoa r.units]
def partF (r:Record):List (List UInt8):=if r.part=0 then [] else [[112,97,114,116],Go.Lib.itoa r.call,Go.Lib.itoa r.part]++if r.last=true then [[108,97,115,116]] else []
def trunkF (r:Record):List (List UInt8):=if r.trunk=0 then [] else [if r.inbound=true then [105,110] else [111,117,116],Go.Lib.itoa r.trunk]
def wordsF (r:Record):List (List UInt8):=headF r++partF r++trunkF r
def lineF (r:Record):List UInt8:=Go.Lib.join (wordsF r) [32]
theorem join_len (sep:List UInt8) (xs:List (List UInt8)) (m:Nat) (h:∀ x,x∈xs→x.length≤m):(Go.Lib.join xs sep).length≤xs.length*(m+sep.length):=by
 cases xs with
 | nil=>simp [Go.Lib.join]
 | cons x r =>
  rw [Go.Lib.join_cons]
  have h1:∀ (r:List (List UInt8)),(∀ x,x∈r→x.length≤m)→(Go.Lib.joinTail sep r).length≤r.length*(m+sep.length):=by
   intro r
   induction r with
   | nil=>simp [Go.Lib.joinTail]
   | cons y r ih =>
    intro hr
    have:=ih fun z hz=>hr z (List.mem_cons_of_mem _ hz)
    have h2:=hr y List.mem_cons_self
    simp only [Go.Lib.joinTail,List.map_cons,List.flatten_cons,List.length_append,List.length_cons,Nat.add_mul] at *
    omega
  have h3:=h1 r fun z hz=>h z (List.mem_cons_of_mem _ hz)
  have h4:=h x List.mem_cons_self
  simp only [List.length_append,List.length_cons,Nat.add_mul] at *
  omega
theorem itoa_le {n:Int} (h0:0≤n) (h1:n≤9223372036854775807):(Go.Lib.itoa n).length≤21:=Go.Lib.itoa_length_le n (by omega) h1
theorem words_le {r:Record} (g:Good r):(wordsF r).length≤13∧∀ x,x∈wordsF r→x.length≤21:=by
 have ha:=validB_len g.a
 have hb:r.b.length≤15:=by
  rcases g.b with h | h
  ·exact validB_len h
  ·rw [h.2]; simp
 obtain ⟨gs,ge,gk,_,_,gst,gu,gc,gp,gt⟩:=g
 refine ⟨?_,fun x hx=>?_⟩
 ·have h1:(partF r).length≤4:=by unfold partF; split; simp; split <;> simp
  have h2:(trunkF r).length≤2:=by unfold trunkF; split <;> simp
  have h3:(headF r).length=7:=rfl
  simp only [wordsF,List.length_append]; omega
 ·unfold wordsF at hx
  rcases List.mem_append.1 hx with hx | hx
  ·rcases List.mem_append.1 hx with hx | hx
   ·unfold headF at hx
    simp only [List.mem_cons,List.not_mem_nil,or_false] at hx
    rcases hx with rfl | rfl | rfl | rfl | rfl | rfl | rfl
    ·simp; omega
    ·exact itoa_le (by omega) (by omega)
    ·exact itoa_le (by omega) (by omega)
    ·omega
    ·split
     ·simp
     ·omega
    ·exact itoa_le (by omega) (by omega)
    ·exact itoa_le (by omega) (by omega)
   ·unfold partF at hx
    split at hx
    ·cases hx
    ·rcases List.mem_append.1 hx with hx | hx
     ·simp only [List.mem_cons,List.not_mem_nil,or_false] at hx
      rcases hx with rfl | rfl | rfl
      ·simp
      ·exact itoa_le (by omega) (by omega)
      ·exact itoa_le (by omega) (by omega)
     ·split at hx
      ·simp only [List.mem_cons,List.not_mem_nil,or_false] at hx
       subst hx; simp
      ·cases hx
  ·unfold trunkF at hx
   split at hx
   ·cases hx
   ·simp only [List.mem_cons,List.not_mem_nil,or_false] at hx
    rcases hx with rfl | rfl
    ·split <;> simp
    ·exact itoa_le (by omega) (by omega)
theorem p_Itoa {n:Int} (h0:0≤n) (h1:n≤9223372036854775807):x_Itoa n=some (Go.Lib.itoa n):=by
 unfold x_Itoa; rw [ck_pos (by omega)]
theorem p_Encode_ok (r:Record) (h:errF r=0):f_textual_Encode r=some (lineF r,0):=by
 have g:=errF_good h
 have ha:=validB_len g.a
 have hb:r.b.length≤15:=by
  rcases g.b with h | h
  ·exact validB_len h
  ·rw [h.2]; simp
 have hj3:∀ ws,ws=wordsF r→f_textual_Encode_j3 ws=some (lineF r,0):=by
  rintro ws rfl
  unfold f_textual_Encode_j3 x_Join
  obtain ⟨w1,w2⟩:=words_le g
  have:=join_len [32] (wordsF r) 21 w2
  simp only [List.length_cons,List.length_nil] at this
  have h3:(wordsF r).length*22≤13*22:=Nat.mul_le_mul_right _ w1
  rw [ck_pos ⟨by omega,by omega⟩]
  rfl
 have hj2:∀ ws,ws=headF r++partF r→ws.length≤11→f_textual_Encode_j2 r ws=some (lineF r,0):=by
  intro ws hw hl
  unfold f_textual_Encode_j2
  by_cases ht:r.trunk=0
  ·rw [if_neg (by simp [ht])]
   exact hj3 _ (by rw [hw,wordsF,trunkF,if_pos ht]; simp)
  ·rw [if_pos (by simp [ht])]
   unfold f_textual_Encode_j4
   rw [p_Itoa g.trunk.1 (by have:=g.trunk.2; omega)]
   simp only [Option.bind_some]
   split
   ·rename_i hi
    rw [ck_pos (by simp; omega)]
    exact hj3 _ (by rw [hw,wordsF,trunkF,if_neg ht,if_pos hi])
   ·rename_i hi
    rw [ck_pos (by simp; omega)]
    exact hj3 _ (by rw [hw,wordsF,trunkF,if_neg ht,if_neg hi])
 have hj1:∀ b,b=(if r.b=[] then [45] else r.b)→f_textual_Encode_j1 r b=some (lineF r,0):=by
  rintro b rfl
  unfold f_textual_Encode_j1
  have gk:=g.kind
  rw [ck_pos (by omega),ck_pos (by simp; omega),p_Itoa (by have:=g.source; omega) (by have:=g.source; omega),p_Itoa (by have:=g.serial; omega) (by have:=g.serial; omega),p_Itoa g.start.1 (by have:=g.start; omega),p_Itoa g.units.1 (by have:=g.units; omega)]
  simp only [Option.bind_some]
  by_cases hp:r.part=0
  ·rw [if_neg (by simp [hp])]
   exact hj2 _ (by rw [partF,if_pos hp]; simp [headF]) (by simp)
  ·rw [if_pos (by simp [hp]),p_Itoa g.call.1 (by have:=g.call; omega),p_Itoa g.part.1 (by have:=g.part; omega)]
   simp only [Option.bind_some]
   rw [ck_pos (by simp)]
   split
   ·rename_i hl
    rw [ck_pos (by simp)]
    exact hj2 _ (by rw [partF,if_neg hp,if_pos hl]; simp [headF]) (by simp)
   ·rename_i hl
    exact hj2 _ (by rw [partF,if_neg hp,if_neg hl]; simp [headF]) (by simp)
 unfold f_textual_Encode
 rw [p_check r (by omega) (by omega),h]
 simp only [Option.bind_some]
 rw [if_neg (by simp)]
 split
 ·rename_i hb0
  exact hj1 _ (by rw [if_pos (by simpa using hb0)])
 ·rename_i hb0
  exact hj1 _ (by rw [if_neg (by simpa using hb0)])
theorem p_Encode (r:Record) (ha:r.a.length < 1000000000) (hb:r.b.length < 1000000000):f_textual_Encode r=some (if errF r=0 then lineF r else [],errF r):=by
 by_cases h:errF r=0
 ·rw [p_Encode_ok r h,if_pos h,h]
 ·unfold f_textual_Encode
  rw [p_check r ha hb,if_neg h]
  simp only [Option.bind_some]
  rw [if_pos (by simpa using h)]
def okT (r:Record):Bool:=decide (1≤r.kind∧r.kind≤4∧0≤r.units∧r.units≤1099511627776)
def conT (r:Record) (k:Nat):Int:=if okT r=true∧r.kind.toNat=k then r.units else 0
def sumT:List Record→Nat→Int
 | [],_=>0
 | r :: l,k=>conT r k+sumT l k
theorem sumT_app:∀ (a b:List Record) (k:Nat),sumT (a++b) k=sumT a k+sumT b k
 | [],b,k=>by simp [sumT]
 | r :: a,b,k=>by simp only [List.cons_append,sumT,sumT_app a b k]; omega
def callB (a b:Record):Bool:=decide (a.source=b.source) && decide (a.call=b.call)
theorem callB_iff {a b:Record}:callB a b=true↔a.source=b.source∧a.call=b.call:=by simp [callB]
theorem callB_symm {a b:Record} (h:callB a b=true):callB b a=true:=by rw [callB_iff] at *; exact ⟨h.1.symm,h.2.symm⟩
theorem callB_tr {a b c:Record} (h:callB a b=true) (h':callB b c=true):callB a c=true:=by rw [callB_iff] at *; exact ⟨h.1.trans h'.1,h.2.trans h'.2⟩
theorem callB_eq {a x y:Record} (h:callB x y=true):callB a x=callB a y:=by
 rw [callB_iff] at h
 simp [callB,h.1,h.2]
def Lt (a b:Record):Prop:=a.source < b.source∨(a.source=b.source∧(a.call < b.call∨(a.call=b.call∧a.part < b.part)))
instance (a b:Record):Decidable (Lt a b):=by unfold Lt; infer_instance
def Le (a b:Record):Prop:=¬ Lt b a
instance (a b:Record):Decidable (Le a b):=by unfold Le; infer_instance
theorem Le_iff {a b:Record}:Le a b↔a.source < b.source∨(a.source=b.source∧(a.call < b.call∨(a.call=b.call∧a.part≤b.part))):=by
 unfold Le Lt; omega
theorem Le_trans {a b c:Record} (h:Le a b) (h':Le b c):Le a c:=by rw [Le_iff] at *; omega
theorem Le_of_Lt {a b:Record} (h:Lt a b):Le a b:=by rw [Le_iff]; unfold Lt at h; omega
theorem Le_part {a b:Record} (h:Le a b) (hc:callB a b=true):a.part≤b.part:=by rw [Le_iff] at h; rw [callB_iff] at hc; omega
abbrev Srt (l:List Record):Prop:=l.Pairwise Le
def insP:List Record→Record→List Record
 | [],p=>[p]
 | r :: l,p=>if Lt p r then p :: r :: l else r :: insP l p
theorem insP_perm:∀ (l:List Record) (p:Record),(insP l p).Perm (p :: l)
 | [],p=>.refl _
 | r :: l,p=>by
  unfold insP
  split
  ·exact .refl _
  ·exact ((insP_perm l p).cons r).trans (.swap _ _ _)
theorem insP_len (l:List Record) (p:Record):(insP l p).length=l.length+1:=(insP_perm l p).length_eq
theorem insP_mem {l:List Record} {p x:Record}:x∈insP l p↔x=p∨x∈l:=by rw [(insP_perm l p).mem_iff,List.mem_cons]
theorem insP_srt:∀ {l:List Record} {p:Record},Srt l→Srt (insP l p)
 | [],p,_=>by simp [insP,Srt]
 | r :: l,p,h=>by
  unfold insP
  have h2:=List.pairwise_cons.1 h
  split
  ·rename_i hp
   refine List.pairwise_cons.2 ⟨fun x hx=>?_,h⟩
   rcases List.mem_cons.1 hx with e | hx
   ·rw [e]; exact Le_of_Lt hp
   ·exact Le_trans (Le_of_Lt hp) (h2.1 x hx)
  ·rename_i hp
   refine List.pairwise_cons.2 ⟨fun x hx=>?_,insP_srt h2.2⟩
   rcases insP_mem.1 hx with e | hx
   ·rw [e]; exact hp
   ·exact h2.1 x hx
def chn (last:Bool) (x:Record):Int→List Record→List Record×List Record
 | _,[]=>([],[])
 | n,r :: l=>if callB r x=true∧r.part=n then (if last=true∧r.last=true then ([r],l) else (r :: (chn last x (n+1) l).1,(chn last x (n+1) l).2)) else ((chn last x n l).1,r :: (chn last x n l).2)
theorem chn_perm (last:Bool) (x:Record):∀ (n:Int) (l:List Record),((chn last x n l).1++(chn last x n l).2).Perm l
 | _,[]=>.refl _
 | n,r :: l=>by
  unfold chn
  split
  ·split
   ·exact .refl _
   ·exact (chn_perm last x (n+1) l).cons r
  ·exact (List.perm_middle).trans ((chn_perm last x n l).cons r)
theorem chn_sub (last:Bool) (x:Record):∀ (n:Int) (l:List Record),(chn last x n l).2.Sublist l
 | _,[]=>.slnil
 | n,r :: l=>by
  unfold chn
  split
  ·split
   ·exact List.sublist_cons_self _ _
   ·exact (chn_sub last x (n+1) l).cons r
  ·exact (chn_sub last x n l).cons_cons r
theorem chn_eqx (last:Bool) {x y:Record} (h:callB x y=true):∀ (n:Int) (l:List Record),chn last x n l=chn last y n l
 | _,[]=>rfl
 | n,r :: l=>by
  unfold chn
  rw [callB_eq (a:=r) h,chn_eqx last h (n+1) l,chn_eqx last h n l]
theorem chn_none (last:Bool) {x:Record}:∀ {n:Int} {l:List Record},(∀ r,r∈l→¬(callB r x=true∧r.part=n))→chn last x n l=([],l)
 | _,[],_=>rfl
 | n,r :: l,h=>by
  unfold chn
  rw [if_neg (h r (List.mem_cons_self ..)),chn_none last (fun y hy=>h y (List.mem_cons_of_mem _ hy))]
theorem chn_pre (last:Bool) {x:Record} {n:Int} {l:List Record}:∀ {pre:List Record},(∀ r,r∈pre→¬(callB r x=true∧r.part=n))→chn last x n (pre++l)=((chn last x n l).1,pre++(chn last x n l).2)
 | [],_=>rfl
 | r :: pre,h=>by
  rw [List.cons_append]
  conv=>lhs; unfold chn
  rw [if_neg (h r (List.mem_cons_self ..)),chn_pre last (fun y hy=>h y (List.mem_cons_of_mem _ hy))]
  rfl
theorem chn_post (last:Bool) {x:Record} {post:List Record} (h:∀ r,r∈post→callB r x=false):∀ {n:Int} {l:List Record},chn last x n (l++post)=((chn last x n l).1,(chn last x n l).2++post)
 | n,[]=>by rw [List.nil_append,chn_none last (fun r hr hc=>by simp [h r hr] at hc)]; rfl
 | n,r :: l=>by
  rw [List.cons_append]
  unfold chn
  simp only [chn_post last h (n:=n+1) (l:=l),chn_post last h (n:=n) (l:=l)]
  split
  ·split <;> rfl
  ·rfl
def sumU:List Record→Int
 | []=>0
 | r :: l=>r.units+sumU l
def whR (q:Record) (u:Int):Record:=⟨q.source,q.serial,q.kind,q.a,q.b,q.start,u,0,0,false,q.trunk,q.inbound⟩
def Comm (p q:Record):Prop:=p.source=q.source∧p.call=q.call∧p.kind=q.kind∧p.a=q.a∧p.b=q.b∧p.trunk=q.trunk∧p.inbound=q.inbound
instance (a b:Record):Decidable (Comm a b):=by unfold Comm; infer_instance
def wholeF:List Record→Option Record
 | []=>none
 | q :: l=>if ((q :: l).all fun p=>decide (p.part≠0∧errF p=0∧Comm p q))=true∧errF (whR q (sumU (q :: l)))=0 then some (whR q (sumU (q :: l))) else none
def numB:Int→List Record→Bool
 | _,[]=>true
 | n,r :: l=>decide (r.part=n) && decide (r.last=l.isEmpty) && numB (n+1) l
def complF (l:List Record):Option Record:=if numB 1 l=true then wholeF l else none
theorem complF_nil:complF []=none:=rfl
def joinL:Nat→List Record→Record→List Record×List Record
 | 0,now,_=>([],now)
 | m+1,now,x=>match complF (chn true x 1 now).1 with
  | none=>([],now)
  | some w=>(w :: (joinL m (chn true x 1 now).2 x).1,(joinL m (chn true x 1 now).2 x).2)
def stepJ (now:List Record) (r:Record):List Record×List Record:=if r.part=0 then ([r],now) else joinL (now.length+2) (insP now r) r
def joinF:List Record→List Record→List Record×List Record
 | now,[]=>([],now)
 | now,r :: l=>((stepJ now r).1++(joinF (stepJ now r).2 l).1,(joinF (stepJ now r).2 l).2)
structure Opn (l:List Record):Prop where
 srt:Srt l
 ok:∀ r,r∈l→errF r=0∧r.part≠0
 nc:∀ x,complF (chn true x 1 l).1=none
theorem chn_len {last:Bool} {x:Record} {n:Int} {l:List Record}:(chn last x n l).1.length+(chn last x n l).2.length=l.length:=by
 have:=(chn_perm last x n l).length_eq
 rwa [List.length_append] at this
theorem compl_pos {l:List Record} {w:Record} (h:complF l=some w):l≠[]:=by intro e; rw [e,complF_nil] at h; cases h
abbrev Dist (l:List Record):Prop:=l.Pairwise fun a b=>¬(callB a b=true∧a.part=b.part)
def fnd (T:List Record) (x:Record) (n:Int):Option Record:=T.find? (fun r=>callB r x && decide (r.part=n))
def chS (T:List Record) (x:Record):Nat→Int→List Record
 | 0,_=>[]
 | m+1,n=>match fnd T x n with
  | none=>[]
  | some r=>r :: if r.last=true then [] else chS T x m (n+1)
abbrev chT (T:List Record) (x:Record):List Record:=chS T x 99 1
def Red (T:List Record) (w:Record) (U:List Record):Prop:=Dist T∧∃ x,complF (chT T x)=some w∧T.Perm (chT T x++U)
theorem Red.len {T:List Record} {w:Record} {U:List Record} (h:Red T w U):U.length < T.length:=by
 obtain ⟨h1,x,h2,h3⟩:=h
 have:=h3.length_eq
 have h4:0 < (chT T x).length:=List.length_pos_iff.2 (compl_pos h2)
 rw [List.length_append] at this
 omega
inductive Reds:List Record→List Record→List Record→Prop where
 | nil {T U:List Record}:T.Perm U→Reds T [] U
 | cons {T U V:List Record} {w:Record} {o:List Record}:Red T w U→Reds U o V→Reds T (w :: o) V
def NF (T:List Record):Prop:=∀ w U,¬ Red T w U
theorem Reds.ex:∀ (n:Nat) (T:List Record),T.length≤n→∃ o U,Reds T o U∧NF U
 | n,T,hn=>by
  by_cases h:NF T
  ·exact ⟨[],T,.nil (.refl _),h⟩
  ·simp only [NF,Classical.not_forall,Classical.not_not] at h
   obtain ⟨w,U,h⟩:=h
   have hl:=h.len
   match n,hn with
   | 0,hn=>omega
   | n+1,hn =>
    obtain ⟨o,V,h1,h2⟩:=Reds.ex n U (by omega)
    exact ⟨w :: o,V,.cons h h1,h2⟩
def pickA:Int→List Int→List Record→List Record×List Record
 | _,_,[]=>([],[])
 | _,[],r :: l=>([],r :: l)
 | i,a :: at',r :: l=>if a=i then (r :: (pickA (i+1) at' l).1,(pickA (i+1) at' l).2) else ((pickA (i+1) (a :: at') l).1,r :: (pickA (i+1) (a :: at') l).2)
def posF (last:Bool) (x:Record):Int→Int→List Record→List Int
 | _,_,[]=>[]
 | n,i,r :: l=>if callB r x=true∧r.part=n then (if last=true∧r.last=true then [i] else i :: posF last x (n+1) (i+1) l) else posF last x n (i+1) l
theorem pickA_nil (i:Int) (l:List Record):pickA i [] l=([],l):=by cases l <;> rfl
theorem posF_ge (last:Bool) (x:Record):∀ (n i:Int) (l:List Record),∀ a,a∈posF last x n i l→i≤a∧a < i+l.length
 | _,_,[]=>by simp [posF]
 | n,i,r :: l=>by
  intro a h
  unfold posF at h
  simp only [List.length_cons]
  split at h
  ·split at h
   ·simp at h; omega
   ·rcases List.mem_cons.1 h with e | h
    ·omega
    ·have:=posF_ge last x (n+1) (i+1) l a h; omega
  ·have:=posF_ge last x n (i+1) l a h; omega
theorem posF_asc (last:Bool) (x:Record):∀ (n i:Int) (l:List Record),(posF last x n i l).Pairwise (· < ·)
 | _,_,[]=>.nil
 | n,i,r :: l=>by
  unfold posF
  split
  ·split
   ·simp
   ·refine List.pairwise_cons.2 ⟨fun a ha=>?_,posF_asc last x (n+1) (i+1) l⟩
    have:=posF_ge last x (n+1) (i+1) l a ha; omega
  ·exact posF_asc last x n (i+1) l
theorem pickA_skip {i:Int} {at':List Int} {r:Record} {l:List Record} (h:∀ a,a∈at'→i+1≤a):pickA i at' (r :: l)=((pickA (i+1) at' l).1,r :: (pickA (i+1) at' l).2):=by
 cases at' with
 | nil=>rw [pickA_nil,pickA_nil]
 | cons a at' =>
  conv=>lhs; unfold pickA
  rw [if_neg (by have:=h a (List.mem_cons_self ..); omega)]
theorem pickA_posF (last:Bool) (x:Record):∀ (n i:Int) (l:List Record),pickA i (posF last x n i l) l=chn last x n l
 | _,_,[]=>by simp [posF,pickA,chn]
 | n,i,r :: l=>by
  unfold posF chn
  split
  ·split
   ·unfold pickA
    rw [if_pos rfl,pickA_nil]
   ·unfold pickA
    rw [if_pos rfl,pickA_posF last x (n+1) (i+1) l]
  ·rw [pickA_skip (fun a ha=>(posF_ge _ _ _ _ _ a ha).1),pickA_posF last x n (i+1) l]
def runF (x:Record) (l:List Record):List Record:=l.takeWhile (fun r=>callB r x)
def restF (x:Record) (l:List Record):List Record:=l.dropWhile (fun r=>callB r x)
theorem callB_refl (x:Record):callB x x=true:=by simp [callB]
theorem run_rest (x:Record) (l:List Record):runF x l++restF x l=l:=List.takeWhile_append_dropWhile
theorem run_call {x:Record} {l:List Record}:∀ r,r∈runF x l→callB r x=true:=fun r h=>by
 have:=List.all_takeWhile (p:=fun r=>callB r x) (l:=l)
 rw [List.all_eq_true] at this
 exact this r h
theorem rest_call {x:Record} {l:List Record} (h:Srt (x :: l)):∀ r,r∈restF x (x :: l)→callB r x=false:=by
 intro r hr
 unfold restF at hr
 rw [List.dropWhile_cons_of_pos (p:=fun r=>callB r x) (callB_refl x)] at hr
 have h2:=List.pairwise_cons.1 h
 have hs:(l.dropWhile (fun r=>callB r x)).Sublist l:=List.dropWhile_sublist _
 have h3:=h2.2.sublist hs
 cases hd:l.dropWhile (fun r=>callB r x) with
 | nil=>rw [hd] at hr; cases hr
 | cons y t =>
  have hy:callB y x=false:=by
   have:=List.head?_dropWhile_not (fun r=>callB r x) l
   rw [hd] at this
   simpa using this
  rw [hd] at hr h3
  rcases List.mem_cons.1 hr with e | hr
  ·rw [e]; exact hy
  ·have k1:=h2.1 y (hs.subset (by rw [hd]; exact List.mem_cons_self ..))
   have k2:=(List.pairwise_cons.1 h3).1 r hr
   cases hc:callB r x with
   | false=>rfl
   | true =>
    exfalso
    rw [Le_iff] at k1 k2
    rw [callB_iff] at hc
    have:¬ callB y x=true:=by rw [hy]; simp
    rw [callB_iff] at this
    omega
theorem sumT_perm {l l':List Record} (p:l.Perm l') (k:Nat):sumT l k=sumT l' k:=by
 induction p with
 | nil=>rfl
 | cons x p ih=>simp only [sumT,ih]
 | swap x y l=>simp only [sumT]; omega
 | trans p q ih1 ih2=>exact ih1.trans ih2
theorem good_okT {r:Record} (h:errF r=0):okT r=true:=by
 have g:=errF_good h
 have:=g.kind
 have:=g.units
 unfold okT
 simp; omega
theorem sumT_parts {q:Record} (k:Nat):∀ (l:List Record),(∀ p,p∈l→errF p=0∧p.kind=q.kind)→sumT l k=if q.kind.toNat=k then sumU l else 0
 | [],_=>by simp [sumT,sumU]
 | r :: l,h=>by
  have hr:=h r (List.mem_cons_self ..)
  have ih:=sumT_parts k l (fun p hp=>h p (List.mem_cons_of_mem _ hp))
  simp only [sumT,sumU,ih,conT,good_okT hr.1,hr.2,true_and]
  split <;> omega
theorem conT_whole {l:List Record} {w:Record} (h:wholeF l=some w) (k:Nat):conT w k=sumT l k:=by
 unfold wholeF at h
 split at h
 ·cases h
 ·rename_i q l
  split at h
  ·rename_i hc
   cases h
   rw [sumT_parts (q:=q) k (q :: l) (fun p hp=>by
    have:=List.all_eq_true.1 hc.1 p hp
    simp only [decide_eq_true_eq] at this
    exact ⟨this.2.1,this.2.2.2.2.1⟩)]
   unfold conT
   rw [good_okT hc.2]
   simp [whR]
  ·cases h
theorem compl_whole {l:List Record} {w:Record} (h:complF l=some w):wholeF l=some w:=by
 unfold complF at h
 split at h
 ·exact h
 ·cases h
theorem joinL_sum (x:Record) (k:Nat):∀ (m:Nat) (now:List Record),sumT (joinL m now x).1 k+sumT (joinL m now x).2 k=sumT now k
 | 0,now=>by simp [joinL,sumT]
 | m+1,now=>by
  unfold joinL
  split
  ·simp [sumT]
  ·rename_i w hc
   have h1:=sumT_perm (chn_perm true x 1 now) k
   have h2:=conT_whole (compl_whole hc) k
   have h3:=joinL_sum x k m (chn true x 1 now).2
   rw [sumT_app] at h1
   simp only [sumT]
   omega
theorem joinF_sum (k:Nat):∀ (l now:List Record),sumT (joinF now l).1 k+sumT (joinF now l).2 k=sumT now k+sumT l k
 | [],now=>by simp [joinF,sumT]
 | r :: l,now=>by
  have ih:=joinF_sum k l (stepJ now r).2
  have hs:sumT (stepJ now r).1 k+sumT (stepJ now r).2 k=sumT now k+conT r k:=by
   unfold stepJ
   split
   ·simp [sumT]; omega
   ·have h1:=joinL_sum r k (now.length+2) (insP now r)
    have h2:=sumT_perm (insP_perm now r) k
    simp only [sumT] at h2
    omega
  simp only [joinF,sumT_app,sumT]
  omega
theorem loop_rec {S R α:Type} [Inhabited α] {step:S→Option (S ⊕ R)} (l:List α) (idx:S→Int) (F:S→List α→Option R) (I:S→List α→Prop) (hl:l.length < 1000000000)
  (h0:∀ s,I s []→idx s=(l.length:Int)→∃ r,step s=some (.inr r)∧F s []=some r)
  (h1:∀ s a t,I s (a :: t)→0≤idx s→idx s < (l.length:Int)→nth l (idx s).toNat=a→idx s+1+(t.length:Int)=(l.length:Int) →
   (∃ r,step s=some (.inr r)∧F s (a :: t)=some r)∨∃ s',step s=some (.inl s')∧I s' t∧idx s'=idx s+1∧F s' t=F s (a :: t))
  {s:S} (hi:0≤idx s∧idx s≤(l.length:Int)) (hI:I s (l.drop (idx s).toNat)):loop step s=F s (l.drop (idx s).toNat):=by
 refine loop_spec (step:=step) (fun s=>F s (l.drop (idx s).toNat)) (fun s=>(0≤idx s∧idx s≤(l.length:Int))∧I s (l.drop (idx s).toNat)) (fun s=>((l.length:Int) - idx s).toNat) (fun s hs=>?_) ⟨hi,hI⟩ (by omega)
 obtain ⟨⟨b0,b1⟩,hs⟩:=hs
 by_cases hlt:idx s < (l.length:Int)
 ·have hd:=drop_nth (l:=l) (k:=(idx s).toNat) (by omega)
  rw [hd] at hs ⊢
  rcases h1 s _ _ hs b0 hlt rfl (by rw [List.length_drop]; omega) with ⟨r,e1,e2⟩ | ⟨s',e1,e2,e3,e4⟩
  ·exact .inl ⟨r,e1,e2⟩
  ·refine .inr ⟨s',e1,⟨by omega,?_⟩,by omega,?_⟩
   ·rw [e3,show (idx s+1).toNat=(idx s).toNat+1 from by omega]; exact e2
   ·rw [e3,show (idx s+1).toNat=(idx s).toNat+1 from by omega]; exact e4
 ·have he:idx s=(l.length:Int):=by omega
  rw [List.drop_of_length_le (by omega)] at hs ⊢
  exact .inl (h0 s hs he)
theorem loop_rec0 {S R α:Type} [Inhabited α] {step:S→Option (S ⊕ R)} (l:List α) (idx:S→Int) (F:S→List α→Option R) (I:S→List α→Prop) (hl:l.length < 1000000000)
  (h0:∀ s,I s []→idx s=(l.length:Int)→∃ r,step s=some (.inr r)∧F s []=some r)
  (h1:∀ s a t,I s (a :: t)→0≤idx s→idx s < (l.length:Int)→nth l (idx s).toNat=a→idx s+1+(t.length:Int)=(l.length:Int) →
   (∃ r,step s=some (.inr r)∧F s (a :: t)=some r)∨∃ s',step s=some (.inl s')∧I s' t∧idx s'=idx s+1∧F s' t=F s (a :: t))
  {s:S} (hi:idx s=0) (hI:I s l):loop step s=F s l:=by
 have:=loop_rec l idx F I hl h0 h1 (s:=s) ⟨by omega,by omega⟩ (by rw [hi]; exact hI)
 rw [hi] at this
 exact this
def Sm (r:Record):Prop:=r.a.length≤200∧r.b.length≤200
instance (r:Record):Decidable (Sm r):=by unfold Sm; infer_instance
theorem p_Check (r:Record) (h:Sm r):f_validate_Check r=some (errF r):=by
 unfold f_validate_Check
 unfold Sm at h
 rw [p_Encode r (by omega) (by omega)]; rfl
theorem p_rCheck (r:Record) (h:Sm r):f_r13_Check r=some (errF r):=by
 unfold f_r13_Check
 unfold Sm at h
 rw [p_rError r (by omega) (by omega)]; rfl
theorem good_sm {r:Record} (h:errF r=0):Sm r:=by
 have g:=errF_good h
 have ha:=validB_len g.a
 unfold Sm
 rcases g.b with h | h
 ·have:=validB_len h; omega
 ·rw [h.2]; simp; omega
theorem sm_wh {q:Record} (h:Sm q) (u:Int):Sm (whR q u):=h
def noR:Record×Bool:=((⟨0,0,0,([]:List UInt8),([]:List UInt8),0,0,0,0,false,0,false⟩:Record),false)
def optR:Option Record→Record×Bool
 | none=>noR
 | some w=>(w,true)
def okP (q p:Record):Prop:=p.part≠0∧errF p=0∧Comm p q
instance (q p:Record):Decidable (okP q p):=by unfold okP; infer_instance
theorem whole_fewer {q:Record} {u v:Int} (h:errF (whR q v)=0) (h0:0≤u) (h1:u≤v):errF (whR q u)=0:=by
 have g:=errF_good h
 unfold errF whR at h ⊢
 simp only at h ⊢
 split at h; · cases h
 split at h; · cases h
 split at h; · cases h
 split at h; · cases h
 split at h; · cases h
 split at h; · cases h
 rename_i q1 q2 q3 q4 q5 q6
 rw [if_neg q1,if_neg q2,if_neg q3,if_neg q4,if_neg (by omega),if_neg (by omega)]
 exact h
theorem sumU_pos {q:Record}:∀ {t:List Record},(∀ p,p∈t→okP q p)→0≤sumU t
 | [],_=>by simp [sumU]
 | r :: t,h=>by
  have:=sumU_pos (fun p hp=>h p (List.mem_cons_of_mem _ hp))
  have:=(errF_good (h r (List.mem_cons_self ..)).2.1).units
  simp only [sumU]; omega
def whW (q:Record) (u:Int) (t:List Record):Option Record:=if (t.all fun p=>decide (okP q p))=true∧errF (whR q (u+sumU t))=0 then some (whR q (u+sumU t)) else none
theorem wholeF_whW (q:Record) (l:List Record):wholeF (q :: l)=whW q 0 (q :: l):=by
 unfold wholeF whW
 rw [Int.zero_add]
 rfl
theorem whW_cons {q:Record} {u:Int} {r:Record} {t:List Record} (h:okP q r):whW q u (r :: t)=whW q (u+r.units) t:=by
 unfold whW
 have e:u+sumU (r :: t)=u+r.units+sumU t:=by simp only [sumU]; omega
 rw [e,List.all_cons,decide_eq_true h,Bool.true_and]
theorem whW_bad {q:Record} {u:Int} {r:Record} {t:List Record} (h:¬ okP q r):whW q u (r :: t)=none:=by
 unfold whW
 rw [List.all_cons,decide_eq_false h,Bool.false_and,if_neg (by simp)]
theorem whW_over {q:Record} {u:Int} {t:List Record} (h0:0≤u) (h:errF (whR q u)≠0):whW q u t=none:=by
 unfold whW
 rw [if_neg]
 rintro ⟨h1,h2⟩
 have hp:=sumU_pos (q:=q) (t:=t) (fun p hp=>by have:=List.all_eq_true.1 h1 p hp; simpa using this)
 exact h (whole_fewer h2 h0 (by omega))
theorem comm_vals (p q:Record):eqVs (CorrelateCommon.vals (⟨⟨p.source,p.call⟩,p.kind,p.a,p.b,p.trunk,p.inbound⟩:CorrelateCommon)) (CorrelateCommon.vals (⟨⟨q.source,q.call⟩,q.kind,q.a,q.b,q.trunk,q.inbound⟩:CorrelateCommon))=decide (Comm p q):=by
 rw [Bool.eq_iff_iff,decide_eq_true_iff]
 simp [CorrelateCommon.vals,eqVs,eqV,Comm]
theorem p_whole (l:List Record) (hs:∀ r,r∈l→Sm r) (hl:l.length≤1000):f_correlate_whole l=some (optR (wholeF l)):=by
 cases l with
 | nil=>rfl
 | cons q l =>
  rw [wholeF_whW]
  unfold f_correlate_whole
  have hq:=hs q (List.mem_cons_self ..)
  have e0:nth (q :: l) (Int.toNat 0)=q:=rfl
  rw [if_neg (by simp; omega),ck_pos (by simp),e0]
  simp only [f_correlate_alone,Option.bind_some]
  refine loop_rec0 (q :: l) (fun s:Int×Int=>s.1) (fun s t=>some (optR (whW q s.2 t))) (fun s t=>0≤s.2∧s.2≤1099511627776∧∀ r,r∈t→Sm r) (by omega) ?_ ?_ rfl ⟨by decide,by decide,hs⟩
  ·rintro ⟨i,u⟩ ⟨h0,h1,h2⟩ hi
   simp only at h0 h1 hi ⊢
   unfold f_correlate_whole_l1 f_correlate_whole_j1
   rw [if_neg (by simp only [decide_eq_true_eq]; omega)]
   change ∃ r,Option.map _ ((f_validate_Check (whR q u)).bind _)=_∧_
   rw [p_Check _ (sm_wh hq u)]
   simp only [Option.bind_some,whW,List.all_nil,sumU,true_and,Int.add_zero]
   by_cases he:errF (whR q u)=0
   ·rw [if_neg (by simp [he]),if_pos he]
    exact ⟨_,rfl,rfl⟩
   ·rw [if_pos (by simpa using he),if_neg he]
    exact ⟨_,rfl,rfl⟩
  ·rintro ⟨i,u⟩ r t ⟨h0,h1,h2⟩ hi0 hi1 hn hlen
   simp only at h0 h1 hi0 hi1 hn hlen ⊢
   unfold f_correlate_whole_l1
   have hr:=h2 r (List.mem_cons_self ..)
   rw [if_pos (by simpa using hi1),ck_pos ⟨hi0,hi1⟩,hn,p_Check r hr,e0]
   simp only [f_correlate_commonOf,f_correlate_callOf,gcall_mk,Option.bind_some]
   by_cases hk:r.part≠0∧errF r=0
   ·have b1:(r.part==0)=false:=by simpa using hk.1
    have b2:(errF r != 0)=false:=by simp [hk.2]
    simp only [b1,b2,Bool.not_false,Bool.or_false,if_true,Bool.false_or]
    rw [ck_pos (by simp),comm_vals]
    by_cases hc:Comm r q
    ·rw [ck_pos (by omega)]
     have gu:=(errF_good hk.2).units
     have hok:okP q r:=⟨hk.1,hk.2,hc⟩
     by_cases hu:r.units > 1099511627776-u
     ·rw [if_pos (by simp [hc]; omega)]
      refine .inl ⟨_,rfl,?_⟩
      rw [whW_cons hok,whW_over (by omega)]
      ·rfl
      ·intro he
       have:=(errF_good he).units
       simp only [whR] at this
       omega
     ·rw [if_neg (by simp [hc]; omega),ck_pos (by omega),ck_pos (by omega)]
      refine .inr ⟨_,rfl,⟨by simp only; omega,by simp only; omega,fun p hp=>h2 p (List.mem_cons_of_mem _ hp)⟩,rfl,?_⟩
      rw [whW_cons hok]
    ·rw [ck_pos (by simp [hc]),if_pos (by simp [hc])]
     refine .inl ⟨_,rfl,?_⟩
     rw [whW_bad (fun h=>hc h.2.2)]
     rfl
   ·have hb:((r.part==0) || ((if (!(r.part==0))=true then errF r else default) != 0))=true:=by
     by_cases hp:r.part=0
     ·simp [hp]
     ·simp [hp]
      intro he; exact hk ⟨hp,he⟩
    simp only [hb,Bool.not_true,Bool.true_or,Bool.false_eq_true,if_false]
    rw [ck_pos (by simp),ck_pos (by simp),if_pos trivial]
    refine .inl ⟨_,rfl,?_⟩
    rw [whW_bad (fun h=>hk ⟨h.1,h.2.1⟩)]
    rfl
theorem p_rwhole (l:List Record) (hs:∀ r,r∈l→Sm r) (hl:l.length≤1000):f_r15_whole l=some (optR (wholeF l)):=by
 cases l with
 | nil =>
  unfold f_r15_whole
  refine loop_rec0 ([]:List Record) (fun s:Int×Int×Int×Int×List UInt8×List UInt8×Int×Int×Int×Bool=>s.1) (fun s t=>some (optR (wholeF []))) (fun s t=>s=(0,0,0,0,([]:List UInt8),([]:List UInt8),0,0,0,false)∧t=[]) (by simp) ?_ ?_ rfl ⟨rfl,rfl⟩
  ·rintro s ⟨h,_⟩ hi
   rw [h]
   exact ⟨_,rfl,rfl⟩
  ·rintro s a t ⟨_,h⟩
   cases h
 | cons q l =>
  rw [wholeF_whW]
  unfold f_r15_whole
  have hq:=hs q (List.mem_cons_self ..)
  have e0:nth (q :: l) (Int.toNat 0)=q:=rfl
  have hpos:(0:Int) < ((q :: l).length:Int):=by simp only [List.length_cons]; omega
  refine loop_rec0 (q :: l) (fun s:Int×Int×Int×Int×List UInt8×List UInt8×Int×Int×Int×Bool=>s.1) (fun s t=>some (optR (whW q s.2.2.2.2.2.2.2.1 t)))
   (fun s t=>(0≤s.2.2.2.2.2.2.2.1∧s.2.2.2.2.2.2.2.1≤1099511627776)∧(∀ r,r∈t→Sm r)∧(s.1=0∨(errF (whR q s.2.2.2.2.2.2.2.1)=0∧s=(s.1,q.source,q.serial,q.kind,q.a,q.b,q.start,s.2.2.2.2.2.2.2.1,q.trunk,q.inbound)))) (by omega) ?_ ?_ rfl ⟨by decide,hs,.inl rfl⟩
  ·rintro ⟨i,c0,c1,c2,c3,c4,c5,u,c10,c11⟩ ⟨h0,h1,h2⟩ hi
   simp only at h0 h1 h2 hi ⊢
   rcases h2 with h2 | ⟨h2,h3⟩
   ·omega
   ·injection h3 with _ h3
    injection h3 with e0 h3
    injection h3 with e1 h3
    injection h3 with e2 h3
    injection h3 with e3 h3
    injection h3 with e4 h3
    injection h3 with e5 h3
    injection h3 with _ h3
    injection h3 with e10 e11
    subst e0 e1 e2 e3 e4 e5 e10 e11
    unfold f_r15_whole_l1 f_r15_whole_j1
    rw [if_neg (by simp only [decide_eq_true_eq]; omega),decide_eq_true hpos]
    refine ⟨_,rfl,?_⟩
    simp only [whW,List.all_nil,sumU,true_and,Int.add_zero]
    rw [if_pos h2]
    rfl
  ·rintro ⟨i,c0,c1,c2,c3,c4,c5,u,c10,c11⟩ r t ⟨h0,h1,h2⟩ hi0 hi1 hn hlen
   simp only at h0 h1 h2 hi0 hi1 hn hlen ⊢
   clear h2
   unfold f_r15_whole_l1
   have hr:=h1 r (List.mem_cons_self ..)
   rw [if_pos (by simpa using hi1),ck_pos ⟨hi0,hi1⟩,hn,p_rCheck r hr,e0]
   simp only [f_r15_call,gcall_mk,Option.bind_some]
   by_cases hk:r.part≠0∧errF r=0
   ·have b1:(r.part==0)=false:=by simpa using hk.1
    have gu:=(errF_good hk.2).units
    rw [if_neg (by simp [b1,hk.2]),ck_pos (by omega),ck_pos ⟨Int.le_refl _,hpos⟩]
    by_cases hc:Comm r q
    ·have hok:okP q r:=⟨hk.1,hk.2,hc⟩
     rw [if_neg (by
      obtain ⟨a1,a2,a3,a4,a5,a6,a7⟩:=hc
      simp [a1,a2,a3,a4,a5,a6,a7])]
     change (∃ r_1,((f_r13_Check (whR q (u+r.units))).bind _)=_∧_)∨∃ s',((f_r13_Check (whR q (u+r.units))).bind _)=_∧_
     rw [p_rCheck _ (sm_wh hq _)]
     simp only [Option.bind_some]
     by_cases he:errF (whR q (u+r.units))=0
     ·have ge:=(errF_good he).units
      simp only [whR] at ge
      rw [if_neg (by simp [he]),ck_pos (by omega)]
      refine .inr ⟨_,rfl,⟨by simp only; omega,fun p hp=>h1 p (List.mem_cons_of_mem _ hp),.inr ⟨he,rfl⟩⟩,rfl,?_⟩
      rw [whW_cons hok]
     ·rw [if_pos (by simpa using he)]
      refine .inl ⟨_,rfl,?_⟩
      rw [whW_cons hok,whW_over (by omega) he]
      rfl
    ·rw [if_pos (by
      unfold Comm at hc
      simp only [Bool.or_eq_true,Bool.not_eq_true',Bool.and_eq_false_iff,bne_iff_ne,beq_eq_false_iff_ne]
      by_cases a1:r.source=q.source
      ·by_cases a2:r.call=q.call
       ·by_cases a3:r.kind=q.kind
        ·by_cases a4:r.a=q.a
         ·by_cases a5:r.b=q.b
          ·by_cases a6:r.trunk=q.trunk
           ·by_cases a7:r.inbound=q.inbound
            ·exact absurd ⟨a1,a2,a3,a4,a5,a6,a7⟩ hc
            ·exact .inr a7
           ·exact .inl (.inr a6)
          ·exact .inl (.inl (.inr a5))
         ·exact .inl (.inl (.inl (.inr a4)))
        ·exact .inl (.inl (.inl (.inl (.inr a3))))
       ·exact .inl (.inl (.inl (.inl (.inl (.inr a2)))))
      ·exact .inl (.inl (.inl (.inl (.inl (.inl a1))))))]
     refine .inl ⟨_,rfl,?_⟩
     rw [whW_bad (fun h=>hc h.2.2)]
     rfl
   ·rw [if_pos (by
     by_cases hp:r.part=0
     ·simp [hp]
     ·simp [hp]
      intro he; exact hk ⟨hp,he⟩)]
    refine .inl ⟨_,rfl,?_⟩
    rw [whW_bad (fun h=>hk ⟨h.1,h.2.1⟩)]
    rfl
theorem optR_if (b:Bool) (o:Option Record):(if b=true then optR o else noR)=optR (if b=true then o else none):=by split <;> rfl
theorem p_Complete (l:List Record) (hs:∀ r,r∈l→Sm r) (hl:l.length≤1000):f_correlate_Complete l=some (optR (complF l)):=by
 unfold f_correlate_Complete complF
 rw [←optR_if]
 refine loop_rec0 l (fun s:Int=>s) (fun s t=>some (if numB (s+1) t=true then optR (wholeF l) else noR)) (fun s t=>True) (by omega) ?_ ?_ rfl trivial
 ·intro i _ hi
  unfold f_correlate_Complete_l1 f_correlate_Complete_j1
  rw [if_neg (by simp only [decide_eq_true_eq]; omega),p_whole l hs hl]
  exact ⟨_,rfl,rfl⟩
 ·intro i r t _ hi0 hi1 hn hlen
  unfold f_correlate_Complete_l1
  rw [if_pos (by simpa using hi1),ck_pos ⟨hi0,hi1⟩,hn,ck_pos (by omega),ck_pos (fun _=>by omega)]
  have el:(i==(l.length:Int) - 1)=t.isEmpty:=by
   rw [Bool.eq_iff_iff]
   cases t with
   | nil=>simp at hlen ⊢; omega
   | cons=>simp at hlen ⊢; omega
  rw [el]
  simp only [numB]
  by_cases hp:r.part=i+1
  ·by_cases hla:r.last=t.isEmpty
   ·rw [if_neg (by simp [hp,hla]),ck_pos (by omega)]
    refine .inr ⟨_,rfl,trivial,rfl,?_⟩
    simp [hp,hla]
   ·rw [if_pos (by simp [hp,hla])]
    refine .inl ⟨_,rfl,?_⟩
    simp [hp,hla]; rfl
  ·rw [if_pos (by simp [hp])]
   refine .inl ⟨_,rfl,?_⟩
   simp [hp]; rfl
theorem p_rComplete (l:List Record) (hs:∀ r,r∈l→Sm r) (hl:l.length≤1000):f_r15_Complete l=some (optR (complF l)):=by
 unfold f_r15_Complete complF
 rw [←optR_if]
 refine loop_rec0 l (fun s:Int=>s) (fun s t=>some (if numB (s+1) t=true then optR (wholeF l) else noR)) (fun s t=>True) (by omega) ?_ ?_ rfl trivial
 ·intro i _ hi
  unfold f_r15_Complete_l1 f_r15_Complete_j1
  rw [if_neg (by simp only [decide_eq_true_eq]; omega),p_rwhole l hs hl]
  exact ⟨_,rfl,rfl⟩
 ·intro i r t _ hi0 hi1 hn hlen
  unfold f_r15_Complete_l1
  rw [if_pos (by simpa using hi1),ck_pos ⟨hi0,hi1⟩,hn,ck_pos (by omega),ck_pos (fun _=>⟨hi0,hi1⟩),ck_pos (fun _=>by omega)]
  have el:((i+1)==(l.length:Int))=t.isEmpty:=by
   rw [Bool.eq_iff_iff]
   cases t with
   | nil=>simp at hlen ⊢; omega
   | cons=>simp at hlen ⊢; omega
  rw [el]
  simp only [numB]
  by_cases hp:r.part=i+1
  ·by_cases hla:r.last=t.isEmpty
   ·rw [if_neg (by simp [hp,hla]),ck_pos (by omega)]
    refine .inr ⟨_,rfl,trivial,rfl,?_⟩
    simp [hp,hla]
   ·rw [if_pos (by simp [hp,hla])]
    refine .inl ⟨_,rfl,?_⟩
    simp [hp,hla]; rfl
  ·rw [if_pos (by simp [hp])]
   refine .inl ⟨_,rfl,?_⟩
   simp [hp]; rfl
theorem p_firsts (l:List Record) (x:Record) (last:Bool) (hl:l.length≤1000):f_r15_firsts l x last=some (posF last x 1 0 l):=by
 unfold f_r15_firsts
 refine loop_rec0 l (fun s:List Int×Int=>s.2) (fun s t=>some (s.1++posF last x ((s.1.length:Int)+1) s.2 t)) (fun s t=>(s.1.length:Int)≤s.2) (by omega) ?_ ?_ rfl (by simp)
 ·rintro ⟨out,i⟩ h hi
  simp only at h hi ⊢
  unfold f_r15_firsts_l1
  rw [if_neg (by simp only [decide_eq_true_eq]; omega)]
  exact ⟨_,rfl,by simp [posF]⟩
 ·rintro ⟨out,i⟩ r t h hi0 hi1 hn hlen
  simp only at h hi0 hi1 hn hlen ⊢
  unfold f_r15_firsts_l1
  rw [if_pos (by simpa using hi1),ck_pos ⟨hi0,hi1⟩,hn]
  simp only [f_r15_call,Option.bind_some]
  rw [ck_pos (fun _=>⟨hi0,hi1⟩),ck_pos (fun _=>by omega)]
  have ec:((r.source==x.source) && (r.call==x.call))=callB r x:=by rw [Bool.eq_iff_iff,callB_iff]; simp
  rw [ec,show posF last x ((out.length:Int)+1) i (r :: t)=(if callB r x=true∧r.part=(out.length:Int)+1 then (if last=true∧r.last=true then [i] else i :: posF last x ((out.length:Int)+1+1) (i+1) t) else posF last x ((out.length:Int)+1) (i+1) t) from rfl]
  by_cases hc:callB r x=true∧r.part=(out.length:Int)+1
  ·rw [if_pos (by simp [hc.1,hc.2]),ck_pos (by simp only [List.length_cons,List.length_nil]; omega),ck_pos (fun _=>⟨hi0,hi1⟩),if_pos hc]
   by_cases hla:last=true∧r.last=true
   ·rw [if_pos (by simp [hla.1,hla.2]),if_pos hla]
    exact .inl ⟨_,rfl,rfl⟩
   ·rw [if_neg (by simpa using hla),if_neg hla,ck_pos (by omega)]
    refine .inr ⟨_,rfl,by simp only [List.length_append,List.length_cons,List.length_nil]; omega,rfl,?_⟩
    simp
  ·rw [if_neg (by simpa using hc),if_neg hc,ck_pos (by omega)]
   exact .inr ⟨_,rfl,by simp only; omega,rfl,rfl⟩
theorem p_rpick (l:List Record) (at':List Int) (hl:l.length≤1000) (ha:at'.length≤1000):f_r15_pick l at'=some (pickA 0 at' l):=by
 unfold f_r15_pick
 refine (loop_rec0 l (fun s:List Record×List Record×Int×Int=>s.2.2.2) (fun s t=>some (s.1++(pickA s.2.2.2 (at'.drop s.2.2.1.toNat) t).1,s.2.1++(pickA s.2.2.2 (at'.drop s.2.2.1.toNat) t).2))
  (fun s t=>(0≤s.2.2.1∧s.2.2.1≤(at'.length:Int))∧(s.1.length:Int)≤s.2.2.2∧(s.2.1.length:Int)≤s.2.2.2) (by omega) ?_ ?_ rfl (by simp)).trans (by simp)
 ·rintro ⟨out,rest,k,i⟩ ⟨h0,h1⟩ hi
  simp only at h0 h1 hi ⊢
  unfold f_r15_pick_l1
  rw [if_neg (by simp only [decide_eq_true_eq]; omega)]
  exact ⟨_,rfl,by cases at'.drop k.toNat <;> simp [pickA]⟩
 ·rintro ⟨out,rest,k,i⟩ r t ⟨h0,h1,h2⟩ hi0 hi1 hn hlen
  simp only at h0 h1 h2 hi0 hi1 hn hlen ⊢
  unfold f_r15_pick_l1
  rw [if_pos (by simpa using hi1),ck_pos (fun h=>by simp at h; omega),ck_pos ⟨hi0,hi1⟩,hn]
  by_cases hk:k < (at'.length:Int)
  ·have hd:=drop_nth (l:=at') (k:=k.toNat) (by omega)
   rw [hd]
   by_cases he:nth at' k.toNat=i
   ·rw [if_pos (by simp [he,hk]),ck_pos (by simp only [List.length_cons,List.length_nil]; omega),ck_pos (by omega),ck_pos (by omega)]
    refine .inr ⟨_,rfl,⟨by simp only; omega,by simp only [List.length_append,List.length_cons,List.length_nil]; omega,by simp only; omega⟩,rfl,?_⟩
    simp only
    conv=>rhs; unfold pickA
    rw [if_pos he,show (k+1).toNat=k.toNat+1 from by omega]
    simp
   ·rw [if_neg (by simp [he]),ck_pos ⟨hi0,hi1⟩,ck_pos (by simp only [List.length_cons,List.length_nil]; omega),ck_pos (by omega)]
    refine .inr ⟨_,rfl,⟨by simp only; omega,by simp only; omega,by simp only [List.length_append,List.length_cons,List.length_nil]; omega⟩,rfl,?_⟩
    simp only
    rw [hd]
    conv=>rhs; unfold pickA
    rw [if_neg he]
    simp
  ·rw [if_neg (by simp [hk]),ck_pos ⟨hi0,hi1⟩,ck_pos (by simp only [List.length_cons,List.length_nil]; omega),ck_pos (by omega)]
   refine .inr ⟨_,rfl,⟨by simp only; omega,by simp only; omega,by simp only [List.length_append,List.length_cons,List.length_nil]; omega⟩,rfl,?_⟩
   simp only
   rw [List.drop_of_length_le (by omega),pickA_nil,pickA_nil]
   simp
theorem posF_len (last:Bool) (x:Record):∀ (n i:Int) (l:List Record),(posF last x n i l).length≤l.length
 | _,_,[]=>Nat.le_refl _
 | n,i,r :: l=>by
  have h1:=posF_len last x (n+1) (i+1) l
  have h2:=posF_len last x n (i+1) l
  unfold posF
  split
  ·split <;> simp only [List.length_cons,List.length_nil] <;> omega
  ·simp only [List.length_cons]; omega
theorem chn_sm {last:Bool} {x:Record} {n:Int} {l:List Record} (h:∀ r,r∈l→Sm r):(∀ r,r∈(chn last x n l).1→Sm r)∧(∀ r,r∈(chn last x n l).2→Sm r):=by
 have hp:=chn_perm last x n l
 exact ⟨fun r hr=>h r (hp.mem_iff.1 (List.mem_append.2 (.inl hr))),fun r hr=>h r (hp.mem_iff.1 (List.mem_append.2 (.inr hr)))⟩
theorem nth_mem {α:Type} [Inhabited α] {l:List α} {k:Nat} (h:k < l.length):nth l k∈l:=by rw [nth_eq h]; exact List.getElem_mem h
theorem nth_cons_succ {α:Type} [Inhabited α] {a:α} {t:List α} {j:Nat}:nth (a :: t) (j+1)=nth t j:=by simp [nth]
theorem nth_cons_zero {α:Type} [Inhabited α] {a:α} {t:List α}:nth (a :: t) 0=a:=by simp [nth]
theorem p_rbefore (a b:Record):f_r15_before a b=some (decide (Lt a b)):=by
 unfold f_r15_before
 by_cases h1:a.source=b.source
 ·rw [if_neg (by simp [h1])]
  by_cases h2:a.call=b.call
  ·rw [if_neg (by simp [h2])]
   congr 1
   rw [Bool.eq_iff_iff,decide_eq_true_iff,decide_eq_true_iff]
   unfold Lt; omega
  ·rw [if_pos (by simpa using h2)]
   congr 1
   rw [Bool.eq_iff_iff,decide_eq_true_iff,decide_eq_true_iff]
   unfold Lt; omega
 ·rw [if_pos (by simpa using h1)]
  congr 1
  rw [Bool.eq_iff_iff,decide_eq_true_iff,decide_eq_true_iff]
  unfold Lt; omega
def ncB (l:List Record) (t:List Record):Bool:=t.all fun x=>(complF (chn true x 1 l).1).isNone
def okB (r:Record):Bool:=decide (r.part≠0) && decide (errF r=0)
def srtB:Option Record→List Record→Bool
 | _,[]=>true
 | none,r :: t=>okB r && srtB (some r) t
 | some y,r :: t=>okB r && !decide (Lt r y) && srtB (some r) t
theorem srtB_iff:∀ (o:Option Record) (t:List Record),srtB o t=true↔Srt (o.toList++t)∧∀ r,r∈t→errF r=0∧r.part≠0
 | o,[]=>by cases o <;> simp [srtB,Srt]
 | none,r :: t=>by
  have ih:=srtB_iff (some r) t
  simp only [srtB,okB,Bool.and_eq_true,decide_eq_true_eq,ih,Option.toList_none,Option.toList_some,List.nil_append,List.singleton_append,List.mem_cons,forall_eq_or_imp]
  constructor
  ·intro h; exact ⟨h.2.1,⟨h.1.2,h.1.1⟩,h.2.2⟩
  ·intro h; exact ⟨⟨h.2.1.2,h.2.1.1⟩,h.1,h.2.2⟩
 | some y,r :: t=>by
  have ih:=srtB_iff (some r) t
  simp only [srtB,okB,Bool.and_eq_true,decide_eq_true_eq,ih,Option.toList_some,List.singleton_append,List.mem_cons,forall_eq_or_imp,Bool.not_eq_true',decide_eq_false_iff_not]
  constructor
  ·rintro ⟨⟨⟨h1,h2⟩,h3⟩,h4,h5⟩
   refine ⟨List.pairwise_cons.2 ⟨fun z hz=>?_,h4⟩,⟨h2,h1⟩,h5⟩
   rcases List.mem_cons.1 hz with e | hz
   ·rw [e]; exact h3
   ·exact Le_trans h3 ((List.pairwise_cons.1 h4).1 z hz)
  ·rintro ⟨h1,h2,h3⟩
   have h4:=List.pairwise_cons.1 h1
   exact ⟨⟨⟨h2.2,h2.1⟩,h4.1 r (List.mem_cons_self ..)⟩,h4.2,h3⟩
theorem opn_iff (l:List Record):(srtB none l && ncB l l)=true↔Opn l:=by
 rw [Bool.and_eq_true,srtB_iff]
 simp only [Option.toList_none,List.nil_append,ncB,List.all_eq_true,Option.isNone_iff_eq_none]
 constructor
 ·rintro ⟨⟨h1,h2⟩,h3⟩
  refine ⟨h1,h2,fun x=>?_⟩
  by_cases hx:∃ r,r∈l∧callB r x=true
  ·obtain ⟨r,hr,hc⟩:=hx
   rw [chn_eqx true (callB_symm hc)]
   exact h3 r hr
  ·rw [chn_none true (fun r hr hc=>hx ⟨r,hr,hc.1⟩)]
   rfl
 ·rintro ⟨h1,h2,h3⟩
  exact ⟨⟨h1,h2⟩,fun x _=>h3 x⟩
theorem p_ropen1 (l:List Record) (hs:∀ r,r∈l→Sm r) (hl:l.length≤1000):f_r15_Open_j1 l=some (ncB l l):=by
 unfold f_r15_Open_j1
 refine loop_rec0 l (fun s:Int=>s) (fun s t=>some (ncB l t)) (fun s t=>True) (by omega) ?_ ?_ rfl trivial
 ·intro i _ hi
  unfold f_r15_Open_l1
  rw [if_neg (by simp only [decide_eq_true_eq]; omega)]
  exact ⟨_,rfl,rfl⟩
 ·intro i r t _ hi0 hi1 hn hlen
  unfold f_r15_Open_l1
  rw [if_pos (by simpa using hi1),ck_pos ⟨hi0,hi1⟩,hn,p_firsts l r true hl]
  have hp:=posF_len true r 1 0 l
  simp only [Option.bind_some]
  rw [p_rpick l _ hl (by omega),pickA_posF]
  simp only [Option.bind_some]
  have hc:=chn_len (last:=true) (x:=r) (n:=1) (l:=l)
  rw [p_rComplete _ (chn_sm hs).1 (by omega)]
  simp only [Option.bind_some,ncB,List.all_cons]
  cases hcc:complF (chn true r 1 l).1 with
  | none =>
   rw [if_neg (by simp [optR,noR]),ck_pos (by omega)]
   exact .inr ⟨_,rfl,trivial,rfl,by simp⟩
  | some w =>
   rw [if_pos (show (optR (some w)).2=true from rfl)]
   exact .inl ⟨_,rfl,by simp⟩
theorem p_rOpen (l:List Record) (hs:∀ r,r∈l→Sm r) (hl:l.length≤1000):f_r15_Open l=some (srtB none l && ncB l l):=by
 unfold f_r15_Open
 have:=loop_rec0 l (fun s:Int=>s) (fun s t=>some (srtB (if s=0 then none else some (nth l (s-1).toNat)) t && ncB l l)) (fun s t=>∀ r,r∈t→Sm r) (by omega) (step:=fun s=>f_r15_Open_l2 l s) (s:=0) ?_ ?_ rfl hs
 ·exact this
 ·intro i _ hi
  unfold f_r15_Open_l2
  rw [if_neg (by simp only [decide_eq_true_eq]; omega),p_ropen1 l hs hl]
  exact ⟨_,rfl,by simp [srtB]⟩
 ·intro i r t hsm hi0 hi1 hn hlen
  unfold f_r15_Open_l2
  rw [if_pos (by simpa using hi1),ck_pos ⟨hi0,hi1⟩,ck_pos (fun _=>⟨hi0,hi1⟩),hn,p_rCheck r (hsm r (List.mem_cons_self ..))]
  simp only [gcall_mk,Option.bind_some]
  have e1:(i+1=0)=False:=by simp; omega
  have e2:(i+1-1).toNat=i.toNat:=by omega
  by_cases hk:r.part≠0∧errF r=0
  ·have b1:(r.part==0)=false:=by simpa using hk.1
   simp only [b1,hk.2,Bool.not_false,if_true,Bool.false_or,bne_self_eq_false,Bool.true_and]
   by_cases h0:i=0
   ·rw [ck_pos (by simp [h0]),ck_pos (by simp [h0]),ck_pos (by simp [h0])]
    simp only [h0,Int.lt_irrefl,decide_false,gcall,if_neg,Bool.false_eq_true,if_false,Option.bind_some,Bool.false_and,gt_iff_lt]
    rw [ck_pos (by omega)]
    refine .inr ⟨_,rfl,fun p hp=>hsm p (List.mem_cons_of_mem _ hp),rfl,?_⟩
    have hn':nth l 0=r:=by rw [←hn,h0]; rfl
    simp [srtB,okB,hk.1,hk.2,hn']
   ·have hp:i > 0:=by omega
    rw [ck_pos (fun _=>⟨hi0,hi1⟩),ck_pos (fun _=>by omega),ck_pos (fun _=>by omega)]
    simp only [hp,decide_true,p_rbefore,gcall_mk,Option.bind_some,if_true,Bool.true_and]
    rw [if_neg h0]
    generalize nth l (i-1).toNat=y
    by_cases hb:Lt r y
    ·rw [if_pos (by simpa using hb)]
     exact .inl ⟨_,rfl,by simp [srtB,hb]⟩
    ·rw [if_neg (by simpa using hb),ck_pos (by omega)]
     refine .inr ⟨_,rfl,fun p hp=>hsm p (List.mem_cons_of_mem _ hp),rfl,?_⟩
     simp only [e1,if_false,e2,hn]
     simp [srtB,okB,hk.1,hk.2,hb]
  ·have hb:((r.part==0) || ((if (!(r.part==0))=true then errF r else default) != 0))=true:=by
    by_cases hp:r.part=0
    ·simp [hp]
    ·simp [hp]
     intro he; exact hk ⟨hp,he⟩
   simp only [hb,Bool.not_true,Bool.true_or,Bool.false_and,gcall,Bool.false_eq_true,if_false,Option.bind_some]
   rw [ck_pos (by simp),ck_pos (by simp),ck_pos (by simp),if_pos trivial]
   refine .inl ⟨_,rfl,?_⟩
   have:okB r=false:=by
    unfold okB
    rw [Bool.eq_false_iff]
    simpa using hk
   by_cases h0:i=0 <;> simp [h0,srtB,this]
theorem p_cmp (x y:Int):f_cmp_Compare_int x y=some (if x < y then -1 else if y < x then 1 else 0):=by
 unfold f_cmp_Compare_int f_cmp_isNaN_int
 simp only [Option.bind_some,bne_self_eq_false,Bool.false_eq_true,if_false,decide_eq_true_eq,gt_iff_lt]
 split
 ·rfl
 ·split <;> rfl
theorem p_or (l:List Int) (hl:l.length≤1000):f_cmp_Or_int l=some ((l.find? (fun x=>x != 0)).getD 0):=by
 unfold f_cmp_Or_int
 refine loop_rec0 l (fun s:Int=>s) (fun s t=>some ((t.find? (fun x=>x != 0)).getD 0)) (fun s t=>True) (by omega) ?_ ?_ rfl trivial
 ·intro i _ hi
  unfold f_cmp_Or_int_l1
  rw [if_neg (by simp only [decide_eq_true_eq]; omega)]
  exact ⟨_,rfl,rfl⟩
 ·intro i r t _ hi0 hi1 hn hlen
  unfold f_cmp_Or_int_l1
  rw [if_pos (by simpa using hi1),ck_pos ⟨hi0,hi1⟩,hn]
  by_cases h:r=0
  ·rw [if_neg (by simp [h]),ck_pos (by omega)]
   refine .inr ⟨_,rfl,trivial,rfl,?_⟩
   rw [List.find?_cons_of_neg (by simp [h])]
  ·rw [if_pos (by simpa using h)]
   refine .inl ⟨_,rfl,?_⟩
   rw [List.find?_cons_of_pos (by simpa using h)]
   rfl
theorem p_before (a b:Record):∃ c,f_correlate_before a b=some c∧(c≤0↔¬ Lt b a):=by
 unfold f_correlate_before
 simp only [p_cmp,Option.bind_some]
 rw [p_or _ (by simp)]
 refine ⟨_,rfl,?_⟩
 unfold Lt
 by_cases h1:a.source < b.source
 ·simp [h1] <;> omega
 ·by_cases h2:b.source < a.source
  ·simp [h1,h2]
  ·by_cases h3:a.call < b.call
   ·simp [h1,h2,h3] <;> omega
   ·by_cases h4:b.call < a.call
    ·simp [h1,h2,h3,h4] <;> omega
    ·by_cases h5:a.part < b.part
     ·simp [h1,h2,h3,h4,h5] <;> omega
     ·by_cases h6:b.part < a.part
      ·simp [h1,h2,h3,h4,h5,h6] <;> omega
      ·simp [h1,h2,h3,h4,h5,h6] <;> omega
def callC (x:Record):CorrelateCall:=⟨x.source,x.call⟩
theorem call_vals (r x:Record):eqVs (CorrelateCall.vals ⟨r.source,r.call⟩) (CorrelateCall.vals (callC x))=callB r x:=by
 rw [Bool.eq_iff_iff,callB_iff]
 simp [CorrelateCall.vals,callC,eqVs,eqV]
def idxF (x:Record):Int→List Record→Int
 | _,[]=>-1
 | i,r :: t=>if callB r x=true then i else idxF x (i+1) t
def runN (x:Record):List Record→Nat
 | []=>0
 | r :: t=>if callB r x=true then runN x t+1 else 0
theorem p_indexG (l:List Record) (x:Record) (hl:l.length≤1000):g_api_Record_v1 (callC x) l=some (idxF x 0 l):=by
 unfold g_api_Record_v1
 refine loop_rec0 l (fun s:Int=>s) (fun s t=>some (idxF x s t)) (fun s t=>True) (by omega) ?_ ?_ rfl trivial
 ·intro i _ hi
  unfold g_api_Record_v1_l1
  rw [if_neg (by simp only [decide_eq_true_eq]; omega)]
  exact ⟨_,rfl,rfl⟩
 ·intro i r t _ hi0 hi1 hn hlen
  unfold g_api_Record_v1_l1
  rw [if_pos (by simpa using hi1),ck_pos ⟨hi0,hi1⟩,ck_pos (by omega),hn]
  simp only [g_correlate_span_1,f_correlate_callOf,Option.bind_some,call_vals]
  by_cases h:callB r x=true
  ·rw [if_pos h]
   exact .inl ⟨_,rfl,by simp [idxF,h]⟩
  ·rw [if_neg h,ck_pos (by omega)]
   exact .inr ⟨_,rfl,trivial,rfl,by simp [idxF,h]⟩
theorem idx_ltG:∀ (x:Record) (i:Int) (t:List Record),idxF x i t=-1∨(i≤idxF x i t∧idxF x i t < i+t.length)
 | x,i,[]=>.inl rfl
 | x,i,r :: t=>by
  unfold idxF
  have:=idx_ltG x (i+1) t
  simp only [List.length_cons]
  split <;> omega
theorem p_spanG (l:List Record) (x:Record) (hl:l.length≤1000):g_correlate_span (callC x) l=some (if idxF x 0 l < 0 then (0,0) else (idxF x 0 l,idxF x 0 l+runN x (l.drop (idxF x 0 l).toNat))):=by
 unfold g_correlate_span
 rw [p_indexG l x hl]
 have hi:=idx_ltG x 0 l
 simp only [Option.bind_some,decide_eq_true_eq]
 split
 ·rfl
 ·refine loop_rec l (fun s:Int=>s) (fun s t=>some (idxF x 0 l,s+(runN x t:Int))) (fun s t=>True) (by omega) ?_ ?_ (s:=idxF x 0 l) (by omega) trivial
  ·intro i _ hi
   unfold g_correlate_span_l1
   rw [ck_pos (fun h=>by simp at h; omega),ck_pos (fun h=>by simp at h; omega)]
   simp only [gcall,hi,Int.lt_irrefl,decide_false,Bool.false_eq_true,if_false,Option.bind_some,Bool.false_and]
   exact ⟨_,rfl,by simp [runN,hi]⟩
  ·intro i r t _ hi0 hi1 hn hlen
   unfold g_correlate_span_l1
   rw [ck_pos (fun _=>⟨hi0,hi1⟩),ck_pos (fun _=>by omega),hn]
   simp only [gcall,hi1,decide_true,if_true,f_correlate_callOf,Option.bind_some,Bool.true_and,call_vals]
   by_cases h:callB r x=true
   ·rw [if_pos h,ck_pos (by omega)]
    refine .inr ⟨_,rfl,trivial,rfl,?_⟩
    simp only [runN,h,if_true]
    congr 2; omega
   ·rw [if_neg h]
    refine .inl ⟨_,rfl,?_⟩
    simp [runN,h]
def fI (k:Int):Int→List Record→Option Int
 | _,[]=>none
 | i,r :: t=>if r.part=k then some i else fI k (i+1) t
theorem fI_some {k:Int}:∀ {i:Int} {l:List Record} {j:Int},fI k i l=some j→i≤j∧j < i+l.length∧(nth l (j-i).toNat).part=k
 | i,[],j,h=>by cases h
 | i,r :: l,j,h=>by
  unfold fI at h
  simp only [List.length_cons]
  split at h
  ·rename_i hk
   cases h
   refine ⟨by omega,by omega,?_⟩
   rw [show (i-i).toNat=0 from by omega,nth_cons_zero]; exact hk
  ·have ih:=fI_some h
   refine ⟨by omega,by omega,?_⟩
   rw [show (j-i).toNat=(j-(i+1)).toNat+1 from by omega,nth_cons_succ]
   exact ih.2.2
theorem posF_unfold (last:Bool) (x:Record) (n:Int):∀ {i:Int} {l:List Record},Srt l→(∀ r,r∈l→callB r x=true)→posF last x n i l=match fI n i l with
  | none=>[]
  | some j=>j :: if last=true∧(nth l (j-i).toNat).last=true then [] else posF last x (n+1) i l
 | i,[],_,_=>rfl
 | i,r :: l,h,hc=>by
  have h2:=List.pairwise_cons.1 h
  have hr:=hc r (List.mem_cons_self ..)
  have hc2:∀ r,r∈l→callB r x=true:=fun y hy=>hc y (List.mem_cons_of_mem _ hy)
  by_cases hp:r.part=n
  ·have e1:fI n i (r :: l)=some i:=by unfold fI; rw [if_pos hp]
   have e2:posF last x (n+1) i (r :: l)=posF last x (n+1) (i+1) l:=by
    conv=>lhs; unfold posF
    rw [if_neg (by omega)]
   simp only [e1,e2]
   rw [show (i-i).toNat=0 from by omega,nth_cons_zero]
   conv=>lhs; unfold posF
   rw [if_pos ⟨hr,hp⟩]
   split <;> rfl
  ·have e1:fI n i (r :: l)=fI n (i+1) l:=by conv=>lhs; unfold fI; rw [if_neg hp]
   have e0:posF last x n i (r :: l)=posF last x n (i+1) l:=by
    conv=>lhs; unfold posF
    rw [if_neg (fun h=>hp h.2)]
   rw [e0,e1,posF_unfold last x n h2.2 hc2]
   cases hf:fI n (i+1) l with
   | none=>rfl
   | some j =>
    have hj:=fI_some hf
    have hm:nth l (j-(i+1)).toNat∈l:=nth_mem (by omega)
    have e2:posF last x (n+1) i (r :: l)=posF last x (n+1) (i+1) l:=by
     conv=>lhs; unfold posF
     rw [if_neg (fun h=>by
      have:=Le_part (h2.1 _ hm) (callB_tr hr (callB_symm (hc2 _ hm)))
      omega)]
    simp only [e2]
    rw [show (j-i).toNat=(j-(i+1)).toNat+1 from by omega,nth_cons_succ]
theorem p_candG (l:List Record) (x:Record) (last:Bool) (hl:l.length≤1000) (hs:Srt l) (hc:∀ r,r∈l→callB r x=true) (hp:∀ r,r∈l→r.part≤99):g_correlate_candidates l last=some (posF last x 1 0 l):=by
 unfold g_correlate_candidates
 refine loop_rec0 l (fun s:Int×List (Int×Int)=>s.1) (fun s t=>some (posF last x 1 0 l)) (fun s t=>∀ k,(alook s.2 k).or (fI k s.1 t)=fI k 0 l) (by omega) ?_ ?_ rfl (fun k=>by rw [alook_nil]; rfl)
 ·rintro ⟨i,m⟩ hm hi
  simp only at hm hi ⊢
  have hm':∀ k,alook m k=fI k 0 l:=fun k=>by rw [←hm k]; simp [fI]
  unfold g_correlate_candidates_l2 g_correlate_candidates_j1
  rw [if_neg (by simp only [decide_eq_true_eq]; omega)]
  have:loop (fun s:List Int×Int=>g_correlate_candidates_l1 l last m s.1 s.2) ([],1)=some (posF last x 1 0 l):=by
   refine (loop_spec (fun s:List Int×Int=>some (s.1++posF last x s.2 0 l)) (fun s=>1≤s.2∧s.2≤100∧(s.1.length:Int)≤s.2-1) (fun s=>(100-s.2).toNat) ?_ ⟨by decide,by decide,by decide⟩ (by decide)).trans (by simp)
   rintro ⟨out,k⟩ ⟨h0,h1,h2⟩
   simp only at h0 h1 h2 ⊢
   unfold g_correlate_candidates_l1
   rw [hm' k,posF_unfold last x k hs hc]
   cases hf:fI k 0 l with
   | none =>
    rw [if_pos (by simp)]
    exact .inl ⟨_,rfl,by simp⟩
   | some j =>
    have hj:=fI_some hf
    have hk:=hp _ (nth_mem (l:=l) (k:=(j-0).toNat) (by omega))
    rw [if_neg (by simp),ck_pos (by simp only [List.length_cons,List.length_nil]; omega)]
    simp only [Option.getD_some]
    rw [ck_pos (fun _=>by omega),ck_pos (fun _=>by omega),show (j-0).toNat=j.toNat from by omega]
    by_cases hla:last=true∧(nth l j.toNat).last=true
    ·rw [if_pos (by simp [hla.1,hla.2]),if_pos hla]
     exact .inl ⟨_,rfl,rfl⟩
    ·rw [if_neg (by simpa using hla),if_neg hla,ck_pos (by omega)]
     refine .inr ⟨_,rfl,⟨by simp only; omega,by simp only; omega,by simp only [List.length_append,List.length_cons,List.length_nil]; omega⟩,by simp only; omega,?_⟩
     simp
  rw [this]
  exact ⟨_,rfl,rfl⟩
 ·rintro ⟨i,m⟩ r t hm hi0 hi1 hn hlen
  simp only at hm hi0 hi1 hn hlen ⊢
  unfold g_correlate_candidates_l2
  rw [if_pos (by simpa using hi1),ck_pos ⟨hi0,hi1⟩,ck_pos (by omega),hn]
  cases ha:alook m r.part with
  | none =>
   rw [if_pos (by simp),ck_pos (by omega)]
   refine .inr ⟨_,rfl,fun k=>?_,rfl,by first | rfl | trivial⟩
   simp only
   rw [alook_aset,←hm k]
   by_cases hk:r.part=k
   ·rw [if_pos (by simp [hk])]
    subst hk
    simp [ha,fI]
   ·rw [if_neg (by simpa using fun h=>hk h.symm)]
    simp [fI,hk]
  | some j =>
   rw [if_neg (by simp),ck_pos (by omega)]
   refine .inr ⟨_,rfl,fun k=>?_,rfl,by first | rfl | trivial⟩
   simp only
   rw [←hm k]
   by_cases hk:r.part=k
   ·subst hk
    simp [ha]
   ·simp [fI,hk]
def othF (at':List Int):Int→List Record→List Record
 | _,[]=>[]
 | i,r :: t=>if i∈at' then othF at' (i+1) t else r :: othF at' (i+1) t
theorem othF_congr {a b:List Int}:∀ {i:Int} {l:List Record},(∀ j,i≤j→(j∈a↔j∈b))→othF a i l=othF b i l
 | _,[],_=>rfl
 | i,r :: l,h=>by
  have ih:=othF_congr (i:=i+1) (l:=l) (fun j hj=>h j (by omega))
  unfold othF
  simp only [h i (Int.le_refl _),ih]
theorem othF_nil:∀ (i:Int) (l:List Record),othF [] i l=l
 | _,[]=>rfl
 | i,r :: l=>by unfold othF; rw [if_neg (by simp),othF_nil]
theorem pickA_asc:∀ (i:Int) (at':List Int) (l:List Record),at'.Pairwise (· < ·)→(∀ a,a∈at'→i≤a∧a < i+l.length)→pickA i at' l=(at'.map fun j=>nth l (j-i).toNat,othF at' i l)
 | i,[],l,_,_=>by rw [pickA_nil,othF_nil]; rfl
 | i,a :: at',[],_,h=>by have:=h a (List.mem_cons_self ..); simp at this; omega
 | i,a :: at',r :: l,hp,h=>by
  have h2:=List.pairwise_cons.1 hp
  have ha:=h a (List.mem_cons_self ..)
  unfold pickA
  by_cases e:a=i
  ·subst e
   rw [if_pos rfl,pickA_asc (a+1) at' l h2.2 (fun b hb=>by
    have h3:=h b (List.mem_cons_of_mem _ hb)
    have h4:=h2.1 b hb
    simp only [List.length_cons] at h3
    omega)]
   have e1:(at'.map fun j=>nth (r :: l) (j-a).toNat)=at'.map fun j=>nth l (j-(a+1)).toNat:=List.map_congr_left (fun b hb=>by
    have h4:=h2.1 b hb
    rw [show (b-a).toNat=(b-(a+1)).toNat+1 from by omega,nth_cons_succ])
   have e2:othF (a :: at') a (r :: l)=othF at' (a+1) l:=by
    conv=>lhs; unfold othF
    rw [if_pos (List.mem_cons_self ..)]
    exact othF_congr (fun j hj=>by simp; omega)
   simp only [List.map_cons,e1,e2]
   rw [show (a-a).toNat=0 from by omega,nth_cons_zero]
  ·have hall:∀ b,b∈a :: at'→i+1≤b∧b < i+1+l.length:=fun b hb=>by
    have h3:=h b hb
    simp only [List.length_cons] at h3
    rcases List.mem_cons.1 hb with hb | hb
    ·omega
    ·have:=h2.1 b hb; omega
   rw [if_neg e,pickA_asc (i+1) (a :: at') l hp hall]
   have e1:((a :: at').map fun j=>nth (r :: l) (j-i).toNat)=(a :: at').map fun j=>nth l (j-(i+1)).toNat:=List.map_congr_left (fun b hb=>by
    have h4:=hall b hb
    rw [show (b-i).toNat=(b-(i+1)).toNat+1 from by omega,nth_cons_succ])
   have e2:othF (a :: at') i (r :: l)=r :: othF (a :: at') (i+1) l:=by
    conv=>lhs; unfold othF
    rw [if_neg (fun hb=>by have:=hall i hb; omega)]
   rw [e1,e2]
theorem p_pickG (l:List Record) (at':List Int) (hl:l.length≤1000) (hal:at'.length≤1000) (hp:at'.Pairwise (· < ·)) (hb:∀ a,a∈at'→0≤a∧a < (l.length:Int)):g_correlate_pick l at'=some (pickA 0 at' l):=by
 unfold g_correlate_pick
 rw [pickA_asc 0 at' l hp (fun a ha=>by have:=hb a ha; omega)]
 refine loop_rec0 at' (fun s:List Record×Int×List (Int×Bool)=>s.2.1) (fun s t=>some (at'.map (fun j=>nth l (j-0).toNat),othF at' 0 l))
  (fun s t=>(s.1.length:Int)≤s.2.1∧s.1++t.map (fun j=>nth l (j-0).toNat)=at'.map (fun j=>nth l (j-0).toNat)∧(∀ j,((alook s.2.2 j).getD false=true∨j∈t)↔j∈at')∧(∀ a,a∈t→0≤a∧a < (l.length:Int))) (by omega) ?_ ?_ (s:=(([]:List Record),(0:Int),([]:List (Int×Bool)))) rfl ⟨by simp,rfl,fun j=>by simp [alook_nil],hb⟩
 ·rintro ⟨out,i,m⟩ ⟨h1,h2,h3,h4⟩ hi
  simp only at h1 h2 h3 h4 hi ⊢
  have hm:∀ j,(alook m j).getD false=decide (j∈at'):=fun j=>by rw [Bool.eq_iff_iff,decide_eq_true_iff,←h3 j]; simp
  rw [List.map_nil,List.append_nil] at h2
  unfold g_correlate_pick_l2 g_correlate_pick_j1
  rw [if_neg (by simp only [decide_eq_true_eq]; omega),←h2]
  have:loop (fun s:List Record×Int=>g_correlate_pick_l1 l out m s.1 s.2) ([],0)=some (out,othF at' 0 l):=by
   refine (loop_rec0 l (fun s:List Record×Int=>s.2) (fun s t=>some (out,s.1++othF at' s.2 t)) (fun s t=>(s.1.length:Int)≤s.2) (by omega) ?_ ?_ rfl (by simp)).trans (by simp)
   ·rintro ⟨oth,k⟩ hq hk
    simp only at hq hk ⊢
    unfold g_correlate_pick_l1
    rw [if_neg (by simp only [decide_eq_true_eq]; omega)]
    exact ⟨_,rfl,by simp [othF]⟩
   ·rintro ⟨oth,k⟩ r t hq hk0 hk1 hn hlen
    simp only at hq hk0 hk1 hn hlen ⊢
    unfold g_correlate_pick_l1
    rw [if_pos (by simpa using hk1),ck_pos ⟨hk0,hk1⟩,ck_pos (by omega),hn,hm k]
    by_cases hmem:k∈at'
    ·rw [if_neg (by simpa using hmem),ck_pos (by omega)]
     refine .inr ⟨_,rfl,by simp only; omega,rfl,?_⟩
     simp [othF,hmem]
    ·rw [if_pos (by simpa using hmem),ck_pos (by simp only [List.length_cons,List.length_nil]; omega),ck_pos (by omega)]
     refine .inr ⟨_,rfl,by simp only [List.length_append,List.length_cons,List.length_nil]; omega,rfl,?_⟩
     simp [othF,hmem]
  rw [this]
  exact ⟨_,rfl,rfl⟩
 ·rintro ⟨out,i,m⟩ a t ⟨h1,h2,h3,h4⟩ hi0 hi1 hn hlen
  simp only at h1 h2 h3 h4 hi0 hi1 hn hlen ⊢
  have ha:=h4 a (List.mem_cons_self ..)
  unfold g_correlate_pick_l2
  rw [if_pos (by simpa using hi1),ck_pos ⟨hi0,hi1⟩,hn,ck_pos ha,ck_pos (by omega),ck_pos (by simp only [List.length_cons,List.length_nil]; omega),ck_pos (by omega)]
  refine .inr ⟨_,rfl,⟨?_,?_,fun j=>?_,fun b hb=>h4 b (List.mem_cons_of_mem _ hb)⟩,rfl,by first | rfl | trivial⟩
  ·simp only [List.length_append,List.length_cons,List.length_nil]; omega
  ·simp only
   rw [←h2,List.map_cons,show (a-0).toNat=a.toNat from by omega]
   simp
  ·simp only
   rw [alook_aset,←h3 j]
   by_cases hj:j=a
   ·rw [if_pos (by simp [hj])]; simp [hj]
   ·rw [if_neg (by simpa using hj)]; simp [hj]
theorem idxF_spec (x:Record):∀ (i:Int) (l:List Record),0≤i→(idxF x i l=-1∧∀ r,r∈l→callB r x=false)∨(∃ pre r t,l=pre++r :: t∧(∀ y,y∈pre→callB y x=false)∧callB r x=true∧idxF x i l=i+pre.length)
 | i,[],_=>.inl ⟨rfl,by simp⟩
 | i,r :: l,h0=>by
  unfold idxF
  by_cases h:callB r x=true
  ·rw [if_pos h]
   exact .inr ⟨[],r,l,rfl,by simp,h,by simp⟩
  ·rw [if_neg h]
   rcases idxF_spec x (i+1) l (by omega) with ⟨h1,h2⟩ | ⟨pre,y,t,h1,h2,h3,h4⟩
   ·exact .inl ⟨h1,fun y hy=>by
     rcases List.mem_cons.1 hy with e | hy
     ·rw [e]; simpa using h
     ·exact h2 y hy⟩
   ·refine .inr ⟨r :: pre,y,t,by rw [h1]; rfl,fun z hz=>?_,h3,by rw [h4]; simp only [List.length_cons]; omega⟩
    rcases List.mem_cons.1 hz with e | hz
    ·rw [e]; simpa using h
    ·exact h2 z hz
theorem runN_run (x:Record):∀ (l:List Record),runN x l=(runF x l).length
 | []=>rfl
 | r :: l=>by
  have ih:=runN_run x l
  unfold runN
  unfold runF at ih ⊢
  by_cases h:callB r x=true
  ·rw [if_pos h,List.takeWhile_cons_of_pos (p:=fun r=>callB r x) h,List.length_cons,ih]
  ·rw [if_neg h,List.takeWhile_cons_of_neg (p:=fun r=>callB r x) h]; rfl
theorem span_dec {x:Record} {l:List Record} (hs:Srt l):(idxF x 0 l < 0∧∀ r,r∈l→callB r x=false)∨(∃ pre run post,l=pre++(run++post)∧idxF x 0 l=(pre.length:Int)∧runN x (l.drop (idxF x 0 l).toNat)=run.length∧0 < run.length∧(∀ r,r∈pre→callB r x=false)∧(∀ r,r∈run→callB r x=true)∧(∀ r,r∈post→callB r x=false)):=by
 rcases idxF_spec x 0 l (Int.le_refl _) with ⟨h1,h2⟩ | ⟨pre,r,t,h1,h2,h3,h4⟩
 ·exact .inl ⟨by omega,h2⟩
 ·right
  have e:∀ (l:List Record),runF r l=runF x l∧restF r l=restF x l:=fun l=>by
   unfold runF restF
   have:(fun y=>callB y r)=fun y=>callB y x:=funext fun y=>callB_eq h3
   rw [this]; exact ⟨rfl,rfl⟩
  have hsr:Srt (r :: t):=by rw [h1] at hs; exact (List.pairwise_append.1 hs).2.1
  have hd:l.drop (idxF x 0 l).toNat=r :: t:=by rw [h4,h1,show (0+(pre.length:Int)).toNat=pre.length from by omega,List.drop_left]
  refine ⟨pre,runF x (r :: t),restF x (r :: t),by rw [run_rest]; exact h1,by omega,by rw [hd,runN_run],?_,h2,run_call,fun y hy=>?_⟩
  ·unfold runF
   rw [List.takeWhile_cons_of_pos (p:=fun r=>callB r x) h3]
   simp
  ·rw [←callB_eq h3]
   rw [←(e (r :: t)).2] at hy
   exact rest_call hsr y hy
theorem joinL_fuel (x:Record):∀ (m m':Nat) (now:List Record),now.length < m→now.length < m'→joinL m now x=joinL m' now x
 | 0,_,_,h,_=>by omega
 | _,0,_,_,h=>by omega
 | m+1,m'+1,now,h,h'=>by
  unfold joinL
  cases hc:complF (chn true x 1 now).1 with
  | none=>rfl
  | some w =>
   have hl:=chn_len (last:=true) (x:=x) (n:=1) (l:=now)
   have hp:0 < (chn true x 1 now).1.length:=List.length_pos_iff.2 (compl_pos hc)
   simp only [joinL_fuel x m m' (chn true x 1 now).2 (by omega) (by omega)]
theorem joinL_len (x:Record):∀ (m:Nat) (now:List Record),(joinL m now x).1.length+(joinL m now x).2.length≤now.length
 | 0,now=>by simp [joinL]
 | m+1,now=>by
  unfold joinL
  split
  ·simp
  ·rename_i w hc
   have hl:=chn_len (last:=true) (x:=x) (n:=1) (l:=now)
   have hp:0 < (chn true x 1 now).1.length:=List.length_pos_iff.2 (compl_pos hc)
   have ih:=joinL_len x m (chn true x 1 now).2
   simp only [List.length_cons]
   omega
structure Wt (l:List Record):Prop where
 srt:Srt l
 ok:∀ r,r∈l→errF r=0
theorem Wt.sm {l:List Record} (h:Wt l):∀ r,r∈l→Sm r:=fun r hr=>good_sm (h.ok r hr)
theorem Wt.le {l:List Record} (h:Wt l):∀ r,r∈l→r.part≤99:=fun r hr=>(errF_good (h.ok r hr)).part.2
theorem Wt.sub {l l':List Record} (h:Wt l) (hs:l'.Sublist l):Wt l':=⟨h.srt.sublist hs,fun r hr=>h.ok r (hs.subset hr)⟩
theorem Opn.wt {l:List Record} (h:Opn l):Wt l:=⟨h.srt,fun r hr=>(h.ok r hr).1⟩
theorem Wt.ins {l:List Record} (h:Wt l) {p:Record} (hp:errF p=0):Wt (insP l p):=⟨insP_srt h.srt,fun r hr=>by
 rcases insP_mem.1 hr with e | hr
 ·rw [e]; exact hp
 ·exact h.ok r hr⟩
theorem joinL_sub (x:Record):∀ (m:Nat) (now:List Record),(joinL m now x).2.Sublist now
 | 0,now=>List.Sublist.refl _
 | m+1,now=>by
  unfold joinL
  split
  ·exact List.Sublist.refl _
  ·exact (joinL_sub x m _).trans (chn_sub _ _ _ _)
theorem Wt.step {l:List Record} (h:Wt l) {p:Record} (hp:errF p=0):Wt (stepJ l p).2:=by
 unfold stepJ
 split
 ·exact h
 ·exact (h.ins hp).sub (joinL_sub _ _ _)
theorem stepJ_len (l:List Record) (p:Record):(stepJ l p).1.length+(stepJ l p).2.length≤l.length+1:=by
 unfold stepJ
 split
 ·simp; omega
 ·have:=joinL_len p (l.length+2) (insP l p)
  rw [insP_len] at this
  exact this
theorem p_join (x:Record) (now out:List Record) (h:Wt now) (hl:now.length+out.length≤1000):g_correlate_join_v1 (callC x) now out=some ((joinL (now.length+1) now x).2,out++(joinL (now.length+1) now x).1):=by
 unfold g_correlate_join_v1
 refine loop_spec (fun s:List Record×List Record=>some ((joinL (s.1.length+1) s.1 x).2,s.2++(joinL (s.1.length+1) s.1 x).1)) (fun s=>Wt s.1∧s.1.length+s.2.length≤1000) (fun s=>s.1.length) ?_ ⟨h,hl⟩ (by simp only; omega)
 rintro ⟨l,o⟩ ⟨hw,hb⟩
 simp only at hw hb ⊢
 unfold g_correlate_join_v1_l1
 rw [p_spanG l x (by omega)]
 rcases span_dec (x:=x) hw.srt with ⟨h1,h2⟩ | ⟨pre,run,post,e,h1,h2,h3,h4,h5,h6⟩
 ·rw [if_pos h1]
  simp only [Option.bind_some]
  rw [ck_pos (by omega),ck_pos (by omega)]
  simp only [Int.toNat_zero,List.take_zero,List.drop_zero]
  rw [p_candG [] x true (by simp) .nil (by simp) (by simp)]
  simp only [Option.bind_some,posF]
  rw [p_pickG [] [] (by simp) (by simp) .nil (by simp)]
  simp only [Option.bind_some,pickA_nil]
  rw [p_Complete [] (by simp) (by simp),complF_nil]
  simp only [Option.bind_some,optR,noR,Bool.not_false,if_true]
  refine .inl ⟨_,rfl,?_⟩
  have:joinL (l.length+1) l x=([],l):=by
   unfold joinL
   rw [chn_none true (fun r hr hc=>by rw [h2 r hr] at hc; simp at hc)]
   rfl
  rw [this,List.append_nil]
 ·have hlen:l.length=pre.length+(run.length+post.length):=by rw [e]; simp
  rw [h2,h1,if_neg (by omega)]
  simp only [Option.bind_some]
  have hrs:run.Sublist l:=by
   rw [e]
   exact (List.sublist_append_left run post).trans (List.sublist_append_right pre _)
  have hsl:(l.take ((pre.length:Int)+(run.length:Int)).toNat).drop ((pre.length:Int)).toNat=run:=by
   rw [e,show ((pre.length:Int)+(run.length:Int)).toNat=pre.length+run.length from by omega,show ((pre.length:Int)).toNat=pre.length from by omega,←List.append_assoc,←List.length_append,List.take_left,List.drop_left]
  have hwr:=hw.sub hrs
  rw [ck_pos (by omega),ck_pos (by omega),hsl,p_candG run x true (by omega) hwr.srt h5 hwr.le]
  have hpl:=posF_len true x 1 0 run
  simp only [Option.bind_some]
  rw [p_pickG run _ (by omega) (by omega) (posF_asc _ _ _ _ _) (fun a ha=>by have:=posF_ge true x 1 0 run a ha; omega),pickA_posF]
  have hcl:=chn_len (last:=true) (x:=x) (n:=1) (l:=run)
  simp only [Option.bind_some]
  rw [p_Complete _ (chn_sm hwr.sm).1 (by omega)]
  simp only [Option.bind_some]
  have hch:chn true x 1 l=((chn true x 1 run).1,pre++((chn true x 1 run).2++post)):=by
   rw [e,chn_pre true (fun r hr hc=>by rw [h4 r hr] at hc; simp at hc),chn_post true h6]
  cases hc:complF (chn true x 1 run).1 with
  | none =>
   simp only [optR,noR,Bool.not_false,if_true]
   refine .inl ⟨_,rfl,?_⟩
   have:joinL (l.length+1) l x=([],l):=by
    unfold joinL
    rw [hch,hc]
   rw [this,List.append_nil]
  | some w =>
   have hp:0 < (chn true x 1 run).1.length:=List.length_pos_iff.2 (compl_pos hc)
   simp only [optR,Bool.not_true,Bool.false_eq_true,if_false]
   unfold x_ReplaceRecord
   rw [ck_pos ⟨by omega,by omega,by omega,by omega,by omega⟩]
   simp only [Option.bind_some]
   rw [ck_pos (by simp only [List.length_cons,List.length_nil]; omega)]
   have hrep:l.take ((pre.length:Int)).toNat++(chn true x 1 run).2++l.drop ((pre.length:Int)+(run.length:Int)).toNat=(chn true x 1 l).2:=by
    rw [hch]
    conv=>lhs; rw [e]
    rw [show ((pre.length:Int)+(run.length:Int)).toNat=pre.length+run.length from by omega,show ((pre.length:Int)).toNat=pre.length from by omega,List.take_left,←List.append_assoc pre run post,←List.length_append,List.drop_left,List.append_assoc]
   rw [hrep]
   have hl2:=chn_len (last:=true) (x:=x) (n:=1) (l:=l)
   rw [hch] at hl2
   simp only at hl2
   have hl3:(chn true x 1 l).2.length < l.length:=by rw [hch]; simp only; omega
   refine .inr ⟨_,rfl,⟨hw.sub (chn_sub _ _ _ _),by simp only [List.length_append,List.length_cons,List.length_nil]; omega⟩,by simp only; omega,?_⟩
   simp only
   have:joinL (l.length+1) l x=(w :: (joinL l.length (chn true x 1 l).2 x).1,(joinL l.length (chn true x 1 l).2 x).2):=by
    conv=>lhs; unfold joinL
    rw [show (chn true x 1 l).1=(chn true x 1 run).1 from by rw [hch],hc]
   rw [this,joinL_fuel x ((chn true x 1 l).2.length+1) l.length _ (by omega) (by omega)]
   simp
theorem p_Join (now l:List Record) (h:Wt now) (hv:∀ r,r∈l→errF r=0) (hl:now.length+l.length≤1000):f_correlate_Join now l=some (joinF now l):=by
 unfold f_correlate_Join x_CloneRecord
 rw [ck_pos (by omega)]
 simp only [Option.bind_some]
 refine (loop_rec0 l (fun s:List Record×List Record×Int=>s.2.2) (fun s t=>some (s.2.1++(joinF s.1 t).1,(joinF s.1 t).2)) (fun s t=>Wt s.1∧(∀ r,r∈t→errF r=0)∧s.1.length+s.2.1.length+t.length≤1000) (by omega) ?_ ?_ (s:=(now,([]:List Record),(0:Int))) rfl ⟨h,hv,by simp only [List.length_nil]; omega⟩).trans (by simp)
 ·rintro ⟨w,o,i⟩ ⟨h1,h2,h3⟩ hi
  simp only at h1 h2 h3 hi ⊢
  unfold f_correlate_Join_l1
  rw [if_neg (by simp only [decide_eq_true_eq]; omega)]
  exact ⟨_,rfl,by simp [joinF]⟩
 ·rintro ⟨w,o,i⟩ r t ⟨h1,h2,h3⟩ hi0 hi1 hn hlen
  simp only at h1 h2 h3 hi0 hi1 hn hlen ⊢
  simp only [List.length_cons] at h3
  have hr:=h2 r (List.mem_cons_self ..)
  have ht:∀ r,r∈t→errF r=0:=fun y hy=>h2 y (List.mem_cons_of_mem _ hy)
  unfold f_correlate_Join_l1
  rw [if_pos (by simpa using hi1),ck_pos ⟨hi0,hi1⟩,hn]
  by_cases hp:r.part=0
  ·rw [if_pos (by simpa using hp),ck_pos (by simp only [List.length_cons,List.length_nil]; omega),ck_pos (by omega)]
   refine .inr ⟨_,rfl,⟨h1,ht,by simp only [List.length_append,List.length_cons,List.length_nil]; omega⟩,rfl,?_⟩
   simp only [joinF,stepJ,hp,if_true]
   simp
  ·rw [if_neg (by simpa using hp)]
   have es:stepJ w r=joinL (w.length+2) (insP w r) r:=by unfold stepJ; rw [if_neg hp]
   have hins:=h1.ins hr
   have hil:=insP_len w r
   have key:loop (fun s=>f_correlate_Join_l2 l w o i s) 0=some (.inl ((stepJ w r).2,o++(stepJ w r).1,i+1)):=by
    refine loop_rec0 w (fun s:Int=>s) (fun s t=>(some (Sum.inl ((stepJ w r).2,o++(stepJ w r).1,i+1)):Option ((List Record×List Record×Int) ⊕ (List Record×List Record)))) (fun s t=>t=w.drop s.toNat∧insP w r=w.take s.toNat++insP t r) (by omega) ?_ ?_ rfl ⟨rfl,by simp⟩
    ·intro k ⟨_,hk⟩ hke
     unfold f_correlate_Join_l2 f_correlate_Join_j1
     rw [ck_pos (fun h=>by simp at h; omega),ck_pos (fun h=>by simp at h; omega)]
     have e0:decide (k < (w.length:Int))=false:=by simp; omega
     simp only [e0,gcall,Bool.false_eq_true,if_false,Option.bind_some,Bool.false_and,hn]
     unfold x_InsertRecord
     rw [ck_pos ⟨by omega,by omega,by simp,by simp only [List.length_cons,List.length_nil]; omega⟩]
     have e1:w.take k.toNat++[r]++w.drop k.toNat=insP w r:=by
      rw [hk,List.drop_of_length_le (by omega)]; simp [insP]
     simp only [Option.bind_some,f_correlate_callOf,e1]
     rw [show (⟨r.source,r.call⟩:CorrelateCall)=callC r from rfl,p_join r (insP w r) o hins (by omega),joinL_fuel r ((insP w r).length+1) (w.length+2) _ (by omega) (by omega),←es]
     simp only [Option.bind_some]
     rw [ck_pos (by omega)]
     exact ⟨_,rfl,rfl⟩
    ·intro k y u ⟨hdu,hk⟩ hk0 hk1 hny hkl
     have hu:w.drop (k.toNat+1)=u:=by
      rw [drop_nth (l:=w) (k:=k.toNat) (by omega)] at hdu
      injection hdu with _ h; exact h.symm
     unfold f_correlate_Join_l2 f_correlate_Join_j1
     rw [ck_pos (fun _=>⟨hk0,hk1⟩),ck_pos (fun _=>by omega)]
     obtain ⟨c,hc,hci⟩:=p_before y r
     have e0:decide (k < (w.length:Int))=true:=by simp; omega
     simp only [e0,gcall,if_true,hny,hn,hc,Option.bind_some,Bool.true_and]
     by_cases hlt:Lt r y
     ·rw [if_neg (by simp; exact Int.lt_of_not_ge (fun h=>(hci.1 h) hlt))]
      unfold x_InsertRecord
      rw [ck_pos ⟨by omega,by omega,by simp,by simp only [List.length_cons,List.length_nil]; omega⟩]
      have e1:w.take k.toNat++[r]++w.drop k.toNat=insP w r:=by
       rw [hk,drop_nth (l:=w) (k:=k.toNat) (by omega),hny]
       rw [hu]
       unfold insP
       rw [if_pos hlt]; simp
      simp only [Option.bind_some,f_correlate_callOf,e1]
      rw [show (⟨r.source,r.call⟩:CorrelateCall)=callC r from rfl,p_join r (insP w r) o hins (by omega),joinL_fuel r ((insP w r).length+1) (w.length+2) _ (by omega) (by omega),←es]
      simp only [Option.bind_some]
      rw [ck_pos (by omega)]
      exact .inl ⟨_,rfl,rfl⟩
     ·rw [if_pos (by simp; exact hci.2 hlt),ck_pos (by omega)]
      refine .inr ⟨_,rfl,⟨by rw [show (k+1).toNat=k.toNat+1 from by omega,hu],?_⟩,rfl,by first | rfl | trivial⟩
      rw [hk,show (k+1).toNat=k.toNat+1 from by omega,take_nth (by omega),hny]
      conv=>lhs; unfold insP
      rw [if_neg hlt]; simp
   rw [key]
   have hsl:=stepJ_len w r
   refine .inr ⟨_,rfl,⟨h1.step hr,ht,by simp only [List.length_append]; omega⟩,rfl,?_⟩
   simp only [joinF]
   simp
theorem awake_true:f_w16_awake=some true:=by kernel_rfl
def nextF (s:Int):Int→List Head→Int
 | k,[]=>k
 | k,h :: t=>nextF s (if h.source=s then h.number+1 else k) t
def OkN (h:Head):Prop:=-9223372036854775808≤h.number∧h.number≤9223372036854775806
theorem p_rnext (l:List Head) (n:Nat) (s:Int) (hn:n≤l.length) (hl:l.length≤100000) (hok:∀ h,h∈l.take n→OkN h):f_r16_next l (n:Int) s=some (nextF s 1 (l.take n)):=by
 unfold f_r16_next
 have htl:(l.take n).length=n:=by rw [List.length_take]; omega
 refine loop_rec0 (l.take n) (fun st:Int×Int=>st.2) (fun st t=>some (nextF s st.1 t)) (fun st t=>∀ h,h∈t→OkN h) (by omega) ?_ ?_ (s:=((1:Int),(0:Int))) rfl hok
 ·rintro ⟨k,i⟩ _ hi
  simp only at hi ⊢
  unfold f_r16_next_l1
  rw [if_neg (by simp only [decide_eq_true_eq]; omega)]
  exact ⟨_,rfl,rfl⟩
 ·rintro ⟨k,i⟩ h t ht hi0 hi1 hx hlen
  simp only at ht hi0 hi1 hx hlen ⊢
  have hx':nth l i.toNat=h:=by
   rw [←hx,nth_eq (by omega),nth_eq (by omega),List.getElem_take]
  have:=ht h (List.mem_cons_self ..)
  unfold OkN at this
  unfold f_r16_next_l1
  rw [if_pos (by simp only [decide_eq_true_eq]; omega),ck_pos (by omega),hx']
  by_cases hs:h.source=s
  ·rw [if_pos (by simpa using hs),ck_pos (by omega),ck_pos (by omega),ck_pos (by omega)]
   refine .inr ⟨_,rfl,fun x hx=>ht x (List.mem_cons_of_mem _ hx),rfl,?_⟩
   simp only [nextF,hs,if_true]
  ·rw [if_neg (by simpa using hs),ck_pos (by omega)]
   refine .inr ⟨_,rfl,fun x hx=>ht x (List.mem_cons_of_mem _ hx),rfl,?_⟩
   simp only [nextF,hs,if_false]
def okH (h:Head):Prop:=(1≤h.source∧h.source≤99)∧(1≤h.number∧h.number≤999999999)∧(1≤h.format∧h.format≤3)∧(0≤h.count∧h.count≤4096)
instance (h:Head):Decidable (okH h):=by unfold okH; infer_instance
def hdB:List Head→List Head→Bool
 | _,[]=>true
 | d,h :: t=>decide (okH h∧h.number=nextF h.source 1 d) && hdB (d++[h]) t
theorem okH_okN {h:Head} (o:okH h):OkN h:=by unfold okH at o; unfold OkN; omega
theorem hdB_ok:∀ {d l:List Head},hdB d l=true→∀ h,h∈l→okH h
 | _,[],_,h,hm=>by cases hm
 | d,x :: l,hb,h,hm=>by
  simp only [hdB,Bool.and_eq_true,decide_eq_true_eq] at hb
  rcases List.mem_cons.1 hm with rfl | hm
  ·exact hb.1.1
  ·exact hdB_ok hb.2 h hm
theorem p_rheads (v:Intake) (hl:v.heads.length≤100000):f_r16_heads v=some (hdB [] v.heads):=by
 unfold f_r16_heads
 have:=loop_rec0 v.heads (step:=fun s=>f_r16_heads_l1 v s) (fun s:Int=>s) (fun s t=>some (hdB (v.heads.take s.toNat) t)) (fun s t=>∀ h,h∈v.heads.take s.toNat→okH h) (by omega) (s:=0) ?_ ?_ rfl (by simp)
 ·exact this
 ·intro i _ hi
  unfold f_r16_heads_l1
  rw [if_neg (by simp only [decide_eq_true_eq]; omega)]
  exact ⟨_,rfl,rfl⟩
 ·intro i h t ht hi0 hi1 hx hlen
  unfold f_r16_heads_l1
  rw [if_pos (by simpa using hi1),ck_pos ⟨hi0,hi1⟩,hx]
  by_cases h1:(1≤h.source∧h.source≤99)∧(1≤h.number∧h.number≤999999999)
  ·have e1:((((decide (h.source < 1)) || (decide (h.source > 99))) || (decide (h.number < 1))) || (decide (h.number > 999999999)))=false:=by simp; omega
   have hn:f_r16_next v.heads i h.source=some (nextF h.source 1 (v.heads.take i.toNat)):=by
    have:=p_rnext v.heads i.toNat h.source (by omega) hl (fun x hx=>okH_okN (ht x hx))
    rwa [show ((i.toNat:Nat):Int)=i from by omega] at this
   simp only [e1,Bool.not_false,gcall,if_true,hn,Option.bind_some,Bool.false_or]
   by_cases h2:okH h∧h.number=nextF h.source 1 (v.heads.take i.toNat)
   ·have h3:=h2.1
    unfold okH at h3
    rw [if_neg (by simp [h2.2.symm]; omega),ck_pos (by omega)]
    refine .inr ⟨_,rfl,?_,rfl,?_⟩
    ·rw [show (i+1).toNat=i.toNat+1 from by omega,take_nth (by omega),hx]
     intro y hy
     rcases List.mem_append.1 hy with hy | hy
     ·exact ht y hy
     ·simp at hy; subst hy; exact h2.1
    ·rw [show (i+1).toNat=i.toNat+1 from by omega,take_nth (by omega),hx]
     simp only [hdB,decide_eq_true h2,Bool.true_and]
   ·rw [if_pos (by
     unfold okH at h2
     simp only [Bool.or_eq_true,bne_iff_ne,decide_eq_true_eq]
     by_cases hq:h.number=nextF h.source 1 (v.heads.take i.toNat)
     ·have:¬((1≤h.format∧h.format≤3)∧(0≤h.count∧h.count≤4096)):=fun hh=>h2 ⟨⟨h1.1,h1.2,hh.1,hh.2⟩,hq⟩
      omega
     ·exact .inl (.inl (.inl (.inl hq))))]
    exact .inl ⟨_,rfl,by simp only [hdB,decide_eq_false h2,Bool.false_and]⟩
  ·have e1:((((decide (h.source < 1)) || (decide (h.source > 99))) || (decide (h.number < 1))) || (decide (h.number > 999999999)))=true:=by simp; omega
   simp only [e1,Bool.not_true,gcall,Bool.false_eq_true,if_false,Option.bind_some,Bool.true_or,if_true]
   refine .inl ⟨_,rfl,?_⟩
   have:¬(okH h∧h.number=nextF h.source 1 (v.heads.take i.toNat)):=fun hh=>h1 ⟨hh.1.1,hh.1.2.1⟩
   simp only [hdB,decide_eq_false this,Bool.false_and]
def okR (r:Range):Prop:=(1≤r.source∧r.source≤99)∧1≤r.from_∧r.from_≤r.to_∧r.to_≤999999999
instance (r:Range):Decidable (okR r):=by unfold okR; infer_instance
def RLt (p r:Range):Prop:=p.source < r.source∨(p.source=r.source∧p.to_+1 < r.from_)
instance (p r:Range):Decidable (RLt p r):=by unfold RLt; infer_instance
def canB:Option Range→List Range→Bool
 | _,[]=>true
 | none,r :: t=>decide (okR r) && canB (some r) t
 | some p,r :: t=>decide (okR r∧RLt p r) && canB (some r) t
structure Can (l:List Range):Prop where
 ok:∀ r,r∈l→okR r
 srt:l.Pairwise RLt
theorem canB_iff:∀ (o:Option Range) (t:List Range),(∀ p,o=some p→okR p)→(canB o t=true↔(∀ r,r∈t→okR r)∧(o.toList++t).Pairwise RLt)
 | o,[],_=>by cases o <;> simp [canB]
 | none,r :: t,_=>by
  simp only [canB,Bool.and_eq_true,decide_eq_true_eq,Option.toList_none,List.nil_append]
  constructor
  ·rintro ⟨h1,h2⟩
   have ih:=(canB_iff (some r) t (fun p hp=>by cases hp; exact h1)).1 h2
   simp only [Option.toList_some,List.singleton_append] at ih
   refine ⟨fun x hx=>?_,ih.2⟩
   rcases List.mem_cons.1 hx with rfl | hx
   ·exact h1
   ·exact ih.1 x hx
  ·rintro ⟨h1,h2⟩
   refine ⟨h1 r (List.mem_cons_self ..),(canB_iff (some r) t (fun p hp=>by cases hp; exact h1 r (List.mem_cons_self ..))).2 ⟨fun x hx=>h1 x (List.mem_cons_of_mem _ hx),by simpa using h2⟩⟩
 | some p,r :: t,hp=>by
  simp only [canB,Bool.and_eq_true,decide_eq_true_eq,Option.toList_some,List.singleton_append]
  constructor
  ·rintro ⟨⟨h1,h3⟩,h2⟩
   have ih:=(canB_iff (some r) t (fun p hp=>by cases hp; exact h1)).1 h2
   simp only [Option.toList_some,List.singleton_append] at ih
   refine ⟨fun x hx=>?_,List.pairwise_cons.2 ⟨fun x hx=>?_,ih.2⟩⟩
   ·rcases List.mem_cons.1 hx with rfl | hx
    ·exact h1
    ·exact ih.1 x hx
   ·rcases List.mem_cons.1 hx with rfl | hx
    ·exact h3
    ·have h4:=(List.pairwise_cons.1 ih.2).1 x hx
     unfold okR at h1
     unfold RLt at h3 h4 ⊢
     omega
  ·rintro ⟨h1,h2⟩
   have h3:=List.pairwise_cons.1 h2
   have hr:=h1 r (List.mem_cons_self ..)
   exact ⟨⟨hr,h3.1 r (List.mem_cons_self ..)⟩,(canB_iff (some r) t (fun p hp=>by cases hp; exact hr)).2 ⟨fun x hx=>h1 x (List.mem_cons_of_mem _ hx),by simpa using h3.2⟩⟩
theorem can_iff (l:List Range):canB none l=true↔Can l:=by
 rw [canB_iff none l (fun p hp=>by cases hp)]
 simp only [Option.toList_none,List.nil_append]
 exact ⟨fun h=>⟨h.1,h.2⟩,fun h=>⟨h.ok,h.srt⟩⟩
theorem ident_iff (s n:Int):((((decide (s≥1)) && (decide (s≤99))) && (decide (n≥1))) && (decide (n≤999999999)))=decide ((1≤s∧s≤99)∧1≤n∧n≤999999999):=by
 rw [Bool.eq_iff_iff,decide_eq_true_iff]; simp; omega
theorem p_rcan (l:List Range) (hl:l.length≤100000):f_r14_Check l=some (canB none l):=by
 unfold f_r14_Check
 have:=loop_rec0 l (step:=fun s=>f_r14_Check_l1 l s) (fun s:Int=>s) (fun s t=>some (canB (if s=0 then none else some (nth l (s-1).toNat)) t)) (fun s t=>s≠0→okR (nth l (s-1).toNat)) (by omega) (s:=0) ?_ ?_ rfl (by simp)
 ·exact this
 ·intro i _ hi
  unfold f_r14_Check_l1
  rw [if_neg (by simp only [decide_eq_true_eq]; omega)]
  exact ⟨_,rfl,by simp [canB]⟩
 ·intro i r t hpv hi0 hi1 hx hlen
  unfold f_r14_Check_l1
  rw [if_pos (by simpa using hi1),ck_pos ⟨hi0,hi1⟩,hx]
  simp only [f_r14_identity,ident_iff,Option.bind_some,Bool.not_not,gcall_mk]
  have e1:(i+1=0)=False:=by simp; omega
  have e2:(i+1-1).toNat=i.toNat:=by omega
  by_cases hr:okR r
  ·have hr':=hr
   unfold okR at hr'
   have d1:decide ((1≤r.source∧r.source≤99)∧1≤r.from_∧r.from_≤999999999)=true:=by simp; omega
   have d2:decide ((1≤r.source∧r.source≤99)∧1≤r.to_∧r.to_≤999999999)=true:=by simp; omega
   simp only [d1,d2,if_true,Bool.not_true,Bool.false_or]
   rw [if_neg (by simp; omega)]
   by_cases h0:i=0
   ·subst h0
    rw [ck_pos (by simp),ck_pos (by simp),ck_pos (by simp),ck_pos (by simp),ck_pos (by simp),ck_pos (by simp),ck_pos (by simp),if_neg (by simp),ck_pos (by omega)]
    refine .inr ⟨_,rfl,fun _=>?_,rfl,?_⟩
    ·rw [e2,hx]; exact hr
    ·simp only [e1,if_false,e2,hx,if_true]
     simp only [canB,decide_eq_true hr,Bool.true_and]
   ·have hp:=hpv h0
    have hgt:i > 0:=by omega
    rw [if_neg h0]
    generalize nth l (i-1).toNat=p at hp ⊢
    have hp':=hp
    unfold okR at hp'
    simp only [hgt,decide_true,Bool.true_and]
    rw [ck_pos (fun _=>by omega),ck_pos (fun _=>by omega),ck_pos (fun _=>by omega),ck_pos (fun _=>by omega),ck_pos (fun _=>by omega),ck_pos (fun _=>by omega),ck_pos (fun _=>by omega)]
    by_cases hlt:RLt p r
    ·have hlt':=hlt
     unfold RLt at hlt'
     rw [if_neg (by simp; omega),ck_pos (by omega)]
     refine .inr ⟨_,rfl,fun _=>?_,rfl,?_⟩
     ·rw [e2,hx]; exact hr
     ·simp only [e1,if_false,e2,hx]
      simp only [canB,decide_eq_true (And.intro hr hlt),Bool.true_and]
    ·have hlt':=hlt
     unfold RLt at hlt'
     rw [if_pos (by simp; omega)]
     exact .inl ⟨_,rfl,by simp only [canB,decide_eq_false (fun h:okR r∧RLt p r=>hlt h.2),Bool.false_and]⟩
  ·have hr':=hr
   unfold okR at hr'
   rw [if_pos (by
    by_cases d1:(1≤r.source∧r.source≤99)∧1≤r.from_∧r.from_≤999999999
    ·by_cases d2:(1≤r.source∧r.source≤99)∧1≤r.to_∧r.to_≤999999999
     ·simp only [decide_eq_true d1,decide_eq_true d2,if_true,Bool.not_true,Bool.false_or,decide_eq_true_eq]; omega
     ·simp only [decide_eq_true d1,decide_eq_false d2,if_true,Bool.not_true,Bool.not_false,Bool.false_or,Bool.true_or]
    ·simp only [decide_eq_false d1,Bool.not_false,Bool.true_or])]
   refine .inl ⟨_,rfl,?_⟩
   by_cases h0:i=0
   ·simp [h0,canB,hr]
   ·simp [h0,canB,hr]
def hasB (l:List Range) (s n:Int):Bool:=l.any fun r=>decide (r.source=s∧r.from_≤n∧n≤r.to_)
def idB (s n:Int):Bool:=decide ((1≤s∧s≤99)∧1≤n∧n≤999999999)
theorem p_rHas (l:List Range) (s n:Int) (hl:l.length≤100000):f_r14_Has l s n=some (hasB l s n && idB s n):=by
 unfold f_r14_Has
 refine loop_rec0 l (fun st:Int=>st) (fun st t=>some (hasB t s n && idB s n)) (fun st t=>True) (by omega) ?_ ?_ rfl trivial
 ·intro i _ hi
  unfold f_r14_Has_l1
  rw [if_neg (by simp only [decide_eq_true_eq]; omega)]
  exact ⟨_,rfl,by simp [hasB]⟩
 ·intro i r t _ hi0 hi1 hx hlen
  unfold f_r14_Has_l1
  rw [if_pos (by simpa using hi1),ck_pos ⟨hi0,hi1⟩,ck_pos (fun _=>⟨hi0,hi1⟩),ck_pos (fun _=>⟨hi0,hi1⟩),hx]
  by_cases h:r.source=s∧r.from_≤n∧n≤r.to_
  ·rw [if_pos (by simp [h.1,h.2.1,h.2.2])]
   simp only [f_r14_identity,ident_iff,Option.bind_some]
   exact .inl ⟨_,rfl,by simp [hasB,h,idB]⟩
  ·rw [if_neg (by simp only [Bool.and_eq_true,beq_iff_eq,decide_eq_true_eq]; exact fun hh=>h ⟨hh.1.1,hh.1.2,hh.2⟩),ck_pos (by omega)]
   refine .inr ⟨_,rfl,trivial,rfl,?_⟩
   unfold hasB
   rw [List.any_cons,decide_eq_false h,Bool.false_or]
def cntR (s:Int):List Range→Int
 | []=>0
 | r :: t=>(if r.source=s then r.to_-r.from_+1 else 0)+cntR s t
def cntH (s:Int):List Head→Int
 | []=>0
 | h :: t=>(if h.source=s then h.count else 0)+cntH s t
def ctB (l:List Range) (hs:List Head):Nat→Int→Bool
 | 0,_=>true
 | m+1,s=>decide (cntR s l≤cntH s hs) && ctB l hs m (s+1)
theorem p_ct2 (v:Intake) (s n:Int) (hs:1≤s∧s≤99) (hh:∀ h,h∈v.heads→okH h) (hl:v.heads.length≤100000) (hn:0≤n∧n≤100000000000000):f_r16_counted_j1 v s n=some (if n-cntH s v.heads > 0 then .inr false else .inl (s+1)):=by
 unfold f_r16_counted_j1
 refine loop_rec0 v.heads (fun st:Int×Int=>st.2) (fun st t=>(some (if st.1-cntH s t > 0 then Sum.inr false else Sum.inl (s+1)):Option (Int ⊕ Bool))) (fun st t=>(-5000*st.2≤st.1∧st.1≤100000000000000)∧∀ h,h∈t→okH h) (by omega) ?_ ?_ (s:=(n,(0:Int))) rfl ⟨by simp only; omega,hh⟩
 ·rintro ⟨k,i⟩ ⟨hb,_⟩ hi
  simp only at hb hi ⊢
  unfold f_r16_counted_l2 f_r16_counted_j2
  rw [if_neg (by simp only [decide_eq_true_eq]; omega)]
  simp only [cntH,Int.sub_zero,decide_eq_true_eq]
  by_cases h:k > 0
  ·rw [if_pos h,if_pos h]; exact ⟨_,rfl,rfl⟩
  ·rw [if_neg h,if_neg h,ck_pos (by omega)]; exact ⟨_,rfl,rfl⟩
 ·rintro ⟨k,i⟩ h t ⟨hb,ht⟩ hi0 hi1 hx hlen
  simp only at hb ht hi0 hi1 hx hlen ⊢
  have ho:=ht h (List.mem_cons_self ..)
  unfold okH at ho
  unfold f_r16_counted_l2
  rw [if_pos (by simpa using hi1),ck_pos ⟨hi0,hi1⟩,hx]
  by_cases he:h.source=s
  ·rw [if_pos (by simpa using he),ck_pos ⟨hi0,hi1⟩,ck_pos (by omega),ck_pos (by omega)]
   refine .inr ⟨_,rfl,⟨by simp only; omega,fun x hx=>ht x (List.mem_cons_of_mem _ hx)⟩,rfl,?_⟩
   simp only [cntH,he,if_true]
   rw [show k-h.count-cntH s t=k-(h.count+cntH s t) from by omega]
  ·rw [if_neg (by simpa using he),ck_pos (by omega)]
   refine .inr ⟨_,rfl,⟨by simp only; omega,fun x hx=>ht x (List.mem_cons_of_mem _ hx)⟩,rfl,?_⟩
   simp only [cntH,he,if_false,Int.zero_add]
theorem p_ct3 (v:Intake) (s:Int) (hs:1≤s∧s≤99) (hh:∀ h,h∈v.heads→okH h) (hr:∀ r,r∈v.seen→okR r) (hl:v.heads.length≤100000) (hl2:v.seen.length≤10000):loop (fun st:Int×Int=>f_r16_counted_l3 v s st.1 st.2) (0,0)=some (if cntR s v.seen-cntH s v.heads > 0 then .inr false else .inl (s+1)):=by
 refine (loop_rec0 v.seen (fun st:Int×Int=>st.2) (fun st t=>(some (if (st.1+cntR s t) - cntH s v.heads > 0 then Sum.inr false else Sum.inl (s+1)):Option (Int ⊕ Bool))) (fun st t=>(0≤st.1∧st.1≤st.2*1000000000)∧∀ r,r∈t→okR r) (by omega) ?_ ?_ (s:=((0:Int),(0:Int))) rfl ⟨by simp,hr⟩).trans (by simp)
 ·rintro ⟨k,i⟩ ⟨hb,_⟩ hi
  simp only at hb hi ⊢
  unfold f_r16_counted_l3
  rw [if_neg (by simp only [decide_eq_true_eq]; omega),p_ct2 v s k hs hh hl (by omega)]
  exact ⟨_,rfl,by simp [cntR]⟩
 ·rintro ⟨k,i⟩ r t ⟨hb,ht⟩ hi0 hi1 hx hlen
  simp only at hb ht hi0 hi1 hx hlen ⊢
  have ho:=ht r (List.mem_cons_self ..)
  unfold okR at ho
  unfold f_r16_counted_l3
  rw [if_pos (by simpa using hi1),ck_pos ⟨hi0,hi1⟩,hx]
  by_cases he:r.source=s
  ·rw [if_pos (by simpa using he),ck_pos ⟨hi0,hi1⟩,ck_pos (by omega),ck_pos ⟨hi0,hi1⟩,ck_pos (by omega),ck_pos (by omega),ck_pos (by omega)]
   refine .inr ⟨_,rfl,⟨by simp only; omega,fun x hx=>ht x (List.mem_cons_of_mem _ hx)⟩,rfl,?_⟩
   simp only [cntR,he,if_true]
   rw [show k+r.to_-r.from_+1+cntR s t=k+(r.to_-r.from_+1+cntR s t) from by omega]
  ·rw [if_neg (by simpa using he),ck_pos (by omega)]
   refine .inr ⟨_,rfl,⟨by simp only; omega,fun x hx=>ht x (List.mem_cons_of_mem _ hx)⟩,rfl,?_⟩
   simp only [cntR,he,if_false,Int.zero_add]
theorem p_rcounted (v:Intake) (hh:∀ h,h∈v.heads→okH h) (hr:∀ r,r∈v.seen→okR r) (hl:v.heads.length≤100000) (hl2:v.seen.length≤10000):f_r16_counted v=some (ctB v.seen v.heads 99 1):=by
 unfold f_r16_counted
 refine loop_spec (fun s:Int=>some (ctB v.seen v.heads (100-s).toNat s)) (fun s=>1≤s∧s≤100) (fun s=>(100-s).toNat) ?_ (s:=1) (by decide) (by decide)
 rintro s ⟨h1,h2⟩
 unfold f_r16_counted_l1
 by_cases hs:s≤99
 ·rw [if_pos (by simpa using hs),p_ct3 v s ⟨h1,hs⟩ hh hr hl hl2,show (100-s).toNat=(100-(s+1)).toNat+1 from by omega]
  simp only [ctB]
  by_cases hc:cntR s v.seen-cntH s v.heads > 0
  ·rw [if_pos hc]
   exact .inl ⟨_,rfl,by rw [decide_eq_false (by omega),Bool.false_and]⟩
  ·rw [if_neg hc]
   exact .inr ⟨s+1,rfl,by omega,by omega,by rw [decide_eq_true (show cntR s v.seen≤cntH s v.heads by omega),Bool.true_and]⟩
 ·rw [if_neg (by simpa using hs)]
  have:s=100:=by omega
  subst this
  exact .inl ⟨_,rfl,rfl⟩
def sameId (a b:Record):Bool:=decide (a.source=b.source) && decide (a.serial=b.serial)
def opB (l:List Range):List Record→List Record→Bool
 | _,[]=>true
 | d,r :: t=>(hasB l r.source r.serial && idB r.source r.serial) && !(d.any fun x=>sameId x r) && opB l (d++[r]) t
def ckF (v:Intake):Bool:=hdB [] v.heads && canB none v.seen && (srtB none v.open_ && ncB v.open_ v.open_) && ctB v.seen v.heads 99 1 && opB v.seen [] v.open_
structure SmI (v:Intake):Prop where
 seen:v.seen.length≤1000
 heads:v.heads.length≤1000
 opens:v.open_.length≤1000
 sm:∀ r,r∈v.open_→Sm r
theorem p_rids (v:Intake) (i:Int) (hi0:0≤i) (hi1:i < (v.open_.length:Int)) (hl:v.open_.length≤1000):loop (fun s=>f_r16_Check_l2 v i s) 0=some (if ((v.open_.take i.toNat).any fun x=>sameId x (nth v.open_ i.toNat))=true then .inr false else .inl (i+1)):=by
 have htl:(v.open_.take i.toNat).length=i.toNat:=by rw [List.length_take]; omega
 refine loop_rec0 (v.open_.take i.toNat) (fun s:Int=>s) (fun s t=>(some (if (t.any fun x=>sameId x (nth v.open_ i.toNat))=true then Sum.inr false else Sum.inl (i+1)):Option (Int ⊕ Bool))) (fun s t=>True) (by omega) ?_ ?_ rfl trivial
 ·intro k _ hk
  unfold f_r16_Check_l2
  rw [if_neg (by simp only [decide_eq_true_eq]; omega),ck_pos (by omega)]
  exact ⟨_,rfl,rfl⟩
 ·intro k x t _ hk0 hk1 hx hlen
  have hx':nth v.open_ k.toNat=x:=by rw [←hx,nth_eq (by omega),nth_eq (by omega),List.getElem_take]
  unfold f_r16_Check_l2
  rw [if_pos (by simp only [decide_eq_true_eq]; omega),ck_pos (by omega),ck_pos (fun _=>by omega),hx']
  rw [List.any_cons]
  by_cases h:sameId x (nth v.open_ i.toNat)=true
  ·have h':=h
   simp only [sameId,Bool.and_eq_true,decide_eq_true_eq] at h'
   rw [if_pos (by simp [h'.1,h'.2]),h,Bool.true_or]
   exact .inl ⟨_,rfl,rfl⟩
  ·have h':=h
   simp only [sameId,Bool.and_eq_true,decide_eq_true_eq] at h'
   rw [if_neg (by simpa using h'),ck_pos (by omega),Bool.eq_false_iff.2 h,Bool.false_or]
   exact .inr ⟨_,rfl,trivial,rfl,rfl⟩
theorem p_rck (v:Intake) (hs:SmI v):f_r16_Check v=some (ckF v):=by
 unfold f_r16_Check ckF
 rw [p_rheads v (by have:=hs.heads; omega)]
 simp only [Option.bind_some,Bool.not_not]
 cases h1:hdB [] v.heads with
 | false=>simp [gcall]
 | true =>
  have hh:=hdB_ok h1
  simp only [gcall,if_true]
  rw [p_rcan v.seen (by have:=hs.seen; omega)]
  simp only [Option.bind_some]
  cases h2:canB none v.seen with
  | false=>simp
  | true =>
   have hc:=(can_iff _).1 h2
   simp only [Bool.not_true,Bool.or_self,Bool.not_false,if_true]
   rw [p_rOpen v.open_ hs.sm hs.opens]
   simp only [Option.bind_some]
   cases h3:(srtB none v.open_ && ncB v.open_ v.open_) with
   | false=>simp
   | true =>
    simp only [Bool.not_true,Bool.or_self,Bool.not_false,if_true]
    rw [p_rcounted v hh hc.ok (by have:=hs.heads; omega) (by have:=hs.seen; omega)]
    simp only [Option.bind_some]
    cases h4:ctB v.seen v.heads 99 1 with
    | false=>simp
    | true =>
     simp only [Bool.not_true,Bool.or_self,Bool.false_eq_true,if_false,Bool.true_and]
     have hol:=hs.opens
     refine (loop_rec0 v.open_ (step:=fun s=>f_r16_Check_l1 v s) (fun s:Int=>s) (fun s t=>some (opB v.seen (v.open_.take s.toNat) t)) (fun s t=>True) (by omega) (s:=0) ?_ ?_ rfl trivial)
     ·intro i _ hi
      unfold f_r16_Check_l1
      rw [if_neg (by simp only [decide_eq_true_eq]; omega)]
      exact ⟨_,rfl,rfl⟩
     ·intro i r t _ hi0 hi1 hx hlen
      unfold f_r16_Check_l1
      rw [if_pos (by simpa using hi1),ck_pos ⟨hi0,hi1⟩,hx,p_rHas v.seen r.source r.serial (by have:=hs.seen; omega)]
      simp only [Option.bind_some,opB]
      cases h5:(hasB v.seen r.source r.serial && idB r.source r.serial) with
      | false =>
       rw [if_pos (by rfl)]
       exact .inl ⟨_,rfl,by simp⟩
      | true =>
       rw [if_neg (by simp),p_rids v i hi0 hi1 hol,hx]
       cases h6:((v.open_.take i.toNat).any fun x=>sameId x r) with
       | true =>
        rw [if_pos rfl]
        exact .inl ⟨_,rfl,by simp⟩
       | false =>
        rw [if_neg (by simp)]
        refine .inr ⟨_,rfl,trivial,rfl,?_⟩
        rw [show (i+1).toNat=i.toNat+1 from by omega,take_nth (by omega),hx]
        simp
structure Good16 (v:Intake):Prop where
 heads:hdB [] v.heads=true
 can:Can v.seen
 opn:Opn v.open_
 cnt:ctB v.seen v.heads 99 1=true
 ids:opB v.seen [] v.open_=true
theorem ckF_iff (v:Intake):ckF v=true↔Good16 v:=by
 unfold ckF
 simp only [Bool.and_eq_true]
 rw [can_iff]
 constructor
 ·rintro ⟨⟨⟨⟨h1,h2⟩,h3⟩,h4⟩,h5⟩
  exact ⟨h1,h2,(opn_iff _).1 (by simpa using h3),h4,h5⟩
 ·rintro ⟨h1,h2,h3,h4,h5⟩
  exact ⟨⟨⟨⟨h1,h2⟩,by simpa using (opn_iff _).2 h3⟩,h4⟩,h5⟩
theorem few_tot (l:List Record):∃ b,f_w16_few l=some b∧(b=true→l.length≤40∧∀ r,r∈l→Sm r):=by
 unfold f_w16_few
 obtain ⟨b,h1,h2⟩:=loop_post (step:=fun i:Int=>f_w16_few_l1 l i) (fun b=>b=true→l.length≤40∧∀ r,r∈l→Sm r) (fun i:Int=>0≤i∧i≤41∧i≤(l.length:Int)∧∀ r,r∈l.take i.toNat→Sm r) (fun i=>(41-i).toNat) (fun i hI=>by
  obtain ⟨h0,h1,h2,h3⟩:=hI
  show (∃ r,f_w16_few_l1 l i=_∧_)∨∃ s',f_w16_few_l1 l i=_∧_
  unfold f_w16_few_l1
  by_cases h:i < (l.length:Int)∧i < 41
  ·rw [if_pos (by simp [h]),ck_pos (by omega),ck_pos (by omega)]
   by_cases hs:Sm (nth l i.toNat)
   ·have hs':=hs
    unfold Sm at hs'
    rw [if_neg (by simp; omega),ck_pos (by omega)]
    refine .inr ⟨i+1,rfl,⟨by omega,by omega,by omega,?_⟩,by omega⟩
    rw [show (i+1).toNat=i.toNat+1 from by omega,take_nth (by omega)]
    intro r hr
    rcases List.mem_append.1 hr with hr | hr
    ·exact h3 r hr
    ·simp at hr; subst hr; exact hs
   ·have hs':=hs
    unfold Sm at hs'
    rw [if_pos (by simp; omega)]
    exact .inl ⟨_,rfl,by simp⟩
  ·rw [if_neg (by simp; omega)]
   unfold f_w16_few_j1
   refine .inl ⟨_,rfl,fun hb=>?_⟩
   simp at hb
   have:i=l.length:=by omega
   refine ⟨by omega,fun r hr=>h3 r ?_⟩
   rw [List.take_of_length_le (by omega)]
   exact hr) (s:=0) ⟨by omega,by omega,by omega,by simp⟩ (by omega)
 exact ⟨b,h1,h2⟩
theorem small_tot (v:Intake):∃ b,f_w16_small v=some b∧(b=true→v.seen.length≤40∧v.heads.length≤40∧v.open_.length≤40∧SmI v):=by
 unfold f_w16_small
 obtain ⟨b,h1,h2⟩:=few_tot v.open_
 rw [h1,gcall_mk]
 refine ⟨_,rfl,fun h=>?_⟩
 simp only [Bool.and_eq_true,decide_eq_true_eq] at h
 rw [if_pos (by simp [h.1])] at h
 obtain ⟨h3,h4⟩:=h2 h.2
 exact ⟨by omega,by omega,h3,⟨by omega,by omega,by omega,h4⟩⟩
theorem nextF_snoc (s:Int):∀ (k:Int) (l:List Head) (h:Head),nextF s k (l++[h])=if h.source=s then h.number+1 else nextF s k l
 | k,[],h=>by simp only [List.nil_append,nextF]
 | k,x :: l,h=>by simp only [List.cons_append,nextF]; exact nextF_snoc s _ l h
theorem p_Next (v:Intake) (s:Int) (hl:v.heads.length≤100000) (hok:∀ h,h∈v.heads→OkN h):f_intake_Next v s=some (if 1≤s∧s≤99 then nextF s 1 v.heads else 0):=by
 unfold f_intake_Next
 by_cases hs:1≤s∧s≤99
 ·rw [if_neg (by simp; omega),if_pos hs,ck_pos (by omega)]
  refine (loop_spec (fun i:Int=>some (nextF s 1 (v.heads.take (i+1).toNat))) (fun i=>-1≤i∧i < (v.heads.length:Int)) (fun i=>(i+1).toNat) ?_ (s:=(v.heads.length:Int) - 1) (by omega) (by omega)).trans ?_
  ·rintro i ⟨h1,h2⟩
   unfold f_intake_Next_l1
   by_cases h0:i≥0
   ·have hm:nth v.heads i.toNat∈v.heads:=nth_mem (by omega)
    have ho:=hok _ hm
    unfold OkN at ho
    rw [if_pos (by simpa using h0),ck_pos (by omega),show (i+1).toNat=i.toNat+1 from by omega,take_nth (by omega),nextF_snoc]
    by_cases he:(nth v.heads i.toNat).source=s
    ·rw [if_pos (by simpa using he),ck_pos (by omega),ck_pos (by omega),if_pos he]
     exact .inl ⟨_,rfl,rfl⟩
    ·rw [if_neg (by simpa using he),ck_pos (by omega),if_neg he]
     exact .inr ⟨i-1,rfl,by omega,by omega,by rw [show i-1+1=i from by omega]⟩
   ·rw [if_neg (by simpa using h0)]
    have:i=-1:=by omega
    subst this
    exact .inl ⟨_,rfl,rfl⟩
  ·rw [show ((v.heads.length:Int) - 1+1).toNat=v.heads.length from by omega,List.take_length]
 ·rw [if_pos (by simp; omega),if_neg hs]
theorem Head.eq_iff (a b:Head):eqVs a.vals b.vals=true↔a=b:=by cases a; cases b; simp [Head.vals,eqVs,eqV]
theorem Record.eq_iff (a b:Record):eqVs a.vals b.vals=true↔a=b:=by cases a; cases b; simp [Record.vals,eqVs,eqV]
theorem half {i j:Int} (h0:0≤i) (h1:i≤1000000) (h2:0≤j) (h3:j≤1000000):IntKind.wrap .i64 (Int.fdiv (IntKind.wrap .u64 (i+j)) (2 ^ (min (Int.toNat (1)) 64)))=(i+j) / 2:=by
 have e1:IntKind.wrap .u64 (i+j)=i+j:=by
  have:IntKind.wrap .u64 (i+j)=(i+j) % 18446744073709551616:=rfl
  rw [this]; omega
 have e2:Int.fdiv (i+j) (2 ^ (min (Int.toNat (1)) 64))=(i+j) / 2:=by
  rw [Int.fdiv_eq_ediv_of_nonneg _ (by decide)]; rfl
 rw [e1,e2]
 exact i64w (by omega) (by omega)
def PL (s n:Int) (r:Range):Prop:=r.source > s∨(r.source=s∧r.to_≥n)
instance (s n:Int) (r:Range):Decidable (PL s n r):=by unfold PL; infer_instance
theorem PL_mono {s n:Int} {a b:Range} (h:RLt a b) (hb:okR b) (hp:PL s n a):PL s n b:=by
 unfold PL RLt okR at *; omega
def plN (s n:Int) (l:List Range):Nat:=(l.takeWhile fun r=>!decide (PL s n r)).length
theorem plN_le (s n:Int) (l:List Range):plN s n l≤l.length:=(List.takeWhile_sublist _).length_le
theorem plN_cons (s n:Int) (r:Range) (l:List Range):plN s n (r :: l)=if PL s n r then 0 else plN s n l+1:=by
 unfold plN
 rw [List.takeWhile_cons]
 by_cases h:PL s n r <;> simp [h]
theorem plN_uniq (s n:Int):∀ {l:List Range} {k:Nat},k≤l.length→(∀ j,j < k→¬PL s n (nth l j))→(k < l.length→PL s n (nth l k))→plN s n l=k
 | [],k,hk,_,_=>by simp at hk; subst hk; rfl
 | r :: l,0,_,_,h=>by
  rw [plN_cons,if_pos]
  have:=h (by simp)
  rwa [nth_cons_zero] at this
 | r :: l,k+1,hk,h1,h2=>by
  have:=h1 0 (by omega)
  rw [nth_cons_zero] at this
  rw [plN_cons,if_neg this,plN_uniq s n (k:=k) (by simpa using hk) (fun j hj=>by
   have:=h1 (j+1) (by omega)
   rwa [nth_cons_succ] at this) (fun hk=>by
   have:=h2 (by simpa using hk)
   rwa [nth_cons_succ] at this)]
theorem Can.mono {l:List Range} (h:Can l) {s n:Int} {i j:Nat} (hij:i≤j) (hj:j < l.length) (hp:PL s n (nth l i)):PL s n (nth l j):=by
 by_cases e:i=j
 ·subst e; exact hp
 ·have:=List.pairwise_iff_getElem.1 h.srt i j (by omega) hj (by omega)
  rw [←nth_eq,←nth_eq] at this
  exact PL_mono this (h.ok _ (nth_mem hj)) hp
theorem p_Search (l:List Range) (s n:Int) (hc:Can l) (hl:l.length≤100000):g_sort_Search (l.length:Int) l s n=some (plN s n l:Int):=by
 unfold g_sort_Search
 obtain ⟨r,h1,h2⟩:=loop_post (step:=fun st:Int×Int=>g_sort_Search_l1 l s n st.1 st.2) (fun r=>r=(plN s n l:Int)) (fun st:Int×Int=>0≤st.1∧st.1≤st.2∧st.2≤(l.length:Int)∧(∀ k:Nat,(k:Int) < st.1→¬PL s n (nth l k))∧(st.2 < (l.length:Int)→PL s n (nth l st.2.toNat))) (fun st=>(st.2-st.1).toNat) (by
  rintro ⟨i,j⟩ ⟨a0,a1,a2,a3,a4⟩
  simp only at a0 a1 a2 a3 a4 ⊢
  unfold g_sort_Search_l1 g_dedup_place_1
  by_cases h:i < j
  ·rw [if_pos (by simpa using h),ck_pos (by omega),ck_pos (by omega),half a0 (by omega) (by omega) (by omega),ck_pos (by omega)]
   simp only [Option.bind_some]
   have e:((decide (((nth l ((i+j) / 2).toNat).source) > s)) || ((((nth l ((i+j) / 2).toNat).source)==s) && (decide (((nth l ((i+j) / 2).toNat).to_)≥n))))=decide (PL s n (nth l ((i+j) / 2).toNat)):=by
    rw [Bool.eq_iff_iff]; unfold PL; simp
   rw [e]
   by_cases hp:PL s n (nth l ((i+j) / 2).toNat)
   ·rw [if_neg (by simp [hp])]
    exact .inr ⟨_,rfl,⟨by omega,by simp only; omega,by simp only; omega,a3,fun _=>hp⟩,by simp only; omega⟩
   ·rw [if_pos (by simp [hp]),ck_pos (by omega)]
    refine .inr ⟨_,rfl,⟨by simp only; omega,by simp only; omega,a2,fun k hk hpk=>hp (hc.mono (i:=k) (by simp only at hk; omega) (by omega) hpk),a4⟩,by simp only; omega⟩
  ·rw [if_neg (by simpa using h)]
   refine .inl ⟨_,rfl,?_⟩
   have e:j=i:=by omega
   subst e
   have:=plN_uniq s n (l:=l) (k:=j.toNat) (by omega) (fun k hk=>a3 k (by omega)) (fun hk=>a4 (by omega))
   omega) (s:=((0:Int),(l.length:Int))) ⟨by simp,by simp,by simp,fun k hk=>by simp only at hk; omega,fun h=>by simp at h⟩ (by simp only; omega)
 rw [h1,h2]
theorem has_plN {l:List Range} (hc:Can l) (s n:Int):hasB l s n=(decide (plN s n l < l.length) && (decide ((nth l (plN s n l)).source=s) && decide ((nth l (plN s n l)).from_≤n))):=by
 induction l with
 | nil=>rfl
 | cons r l ih =>
  have hs:=List.pairwise_cons.1 hc.srt
  have hc':Can l:=⟨fun x hx=>hc.ok x (List.mem_cons_of_mem _ hx),hs.2⟩
  rw [plN_cons]
  by_cases hp:PL s n r
  ·rw [if_pos hp,nth_cons_zero]
   have hr:=hc.ok r (List.mem_cons_self ..)
   unfold hasB
   rw [List.any_cons]
   by_cases hh:r.source=s∧r.from_≤n
   ·have:n≤r.to_:=by unfold PL at hp; omega
    simp [hh.1,hh.2,this]
   ·have h1:decide (r.source=s∧r.from_≤n∧n≤r.to_)=false:=decide_eq_false (fun h=>hh ⟨h.1,h.2.1⟩)
    have h2:(l.any fun r=>decide (r.source=s∧r.from_≤n∧n≤r.to_))=false:=by
     rw [List.any_eq_false]
     intro x hx hx2
     have hx2:=of_decide_eq_true hx2
     have h3:=hs.1 x hx
     unfold PL RLt okR at *
     omega
    rw [h1,h2,Bool.or_false]
    have:(decide (r.source=s) && decide (r.from_≤n))=false:=by
     rw [←Bool.decide_and]; exact decide_eq_false hh
    rw [this,Bool.and_false]
  ·rw [if_neg hp,nth_cons_succ]
   have:hasB (r :: l) s n=hasB l s n:=by
    unfold hasB
    rw [List.any_cons,decide_eq_false (by unfold PL at hp; omega),Bool.false_or]
   rw [this,ih hc']
   simp
theorem p_Has (l:List Range) (s n:Int) (hc:Can l) (hl:l.length≤100000):f_dedup_Has l s n=some (hasB l s n && idB s n):=by
 unfold f_dedup_Has f_dedup_place
 rw [p_Search l s n hc hl]
 have hle:=plN_le s n l
 simp only [Option.bind_some,f_dedup_identity,ident_iff]
 rw [ck_pos (fun h=>by simp at h; omega),ck_pos (fun h=>by simp at h; omega),has_plN hc]
 congr 1
 unfold idB
 rw [show ((plN s n l:Nat):Int).toNat=plN s n l from by omega]
 have e:decide (((plN s n l:Nat):Int) < (l.length:Int))=decide (plN s n l < l.length):=by
  rw [Bool.eq_iff_iff,decide_eq_true_iff,decide_eq_true_iff]; omega
 rw [e]
 generalize decide ((1≤s∧s≤99)∧1≤n∧n≤999999999)=b1
 generalize decide (plN s n l < l.length)=b2
 rw [show ((nth l (plN s n l)).source==s)=decide ((nth l (plN s n l)).source=s) from rfl]
 generalize decide ((nth l (plN s n l)).source=s)=b3
 generalize decide ((nth l (plN s n l)).from_≤n)=b4
 cases b1 <;> cases b2 <;> cases b3 <;> cases b4 <;> rfl
instance:DecidableEq Record:=fun a b=>decidable_of_iff _ (Record.eq_iff a b)
def TL (s n:Int) (r:Range):Prop:=r.source=s∧r.to_+1=n
def TR (s n:Int) (r:Range):Prop:=r.source=s∧r.from_-1=n
instance (s n:Int) (r:Range):Decidable (TL s n r):=by unfold TL; infer_instance
instance (s n:Int) (r:Range):Decidable (TR s n r):=by unfold TR; infer_instance
def addR (s n f:Int):List Range→List Range
 | []=>[⟨s,f,n⟩]
 | r :: l=>if TR s n r then ⟨s,f,r.to_⟩ :: l else ⟨s,f,n⟩ :: r :: l
def addF (s n:Int):List Range→List Range
 | []=>[⟨s,n,n⟩]
 | r :: l=>if PL s n r then addR s n n (r :: l) else if TL s n r then addR s n r.from_ l else r :: addF s n l
theorem Can.tail {r:Range} {l:List Range} (h:Can (r :: l)):Can l:=⟨fun x hx=>h.ok x (List.mem_cons_of_mem _ hx),(List.pairwise_cons.1 h.srt).2⟩
theorem has_tail {r:Range} {l:List Range} {s n:Int} (h:hasB (r :: l) s n=false):hasB l s n=false:=by
 unfold hasB at *
 rw [List.any_cons,Bool.or_eq_false_iff] at h
 exact h.2
end Go.Proofs.YtpnegjippkneoaaGreatDoor
