/- Our own texts LW4 LW5 LW6 LW7 LW8 LW9 LW10 LW11 R1 of this seat in one. -/
import Derived.Test.YtpnegjippkneoaaGreatDoorYG2
import Derived.Lib.ItoaLen
set_option linter.unusedSimpArgs false
set_option linter.unusedVariables false
set_option linter.unusedSectionVars false
set_option maxRecDepth 100000
set_option maxHeartbeats 1000000
namespace Go.Proofs.YtpnegjippkneoaaGreatDoor
open Go.RowKit Go.Abs Go.Proofs.Tryz
theorem c_f_correlate_candidates {v0parts:List Record} {v1last:Bool} {r:(List Int)} (H:f_correlate_candidates v0parts v1last=some r):ACall prog 112 [slOf 12 Record.row v0parts,cB v1last] (·=slOf 1 rI r):=by
 obtain ⟨i3,hi3,hz3,hs3,hb3⟩:=in_3
 refine ACall.enter' func112 rfl ntmps112 rfl fun S hS=>?_
 unfold f_correlate_candidates at H
 refine .A 16 [.v (.mp 0) ⟨[.map (mEnc (fun n=>Value.int .i64 n) (fun x=>cI x) ([]:List (Int×Int)))],[]⟩,.i (v0parts.length:Int)] rfl ⟨s23.n rfl rfl,.e (v_makeMap) rfl⟩ ?_
 refine .blockJoin2 (ι:=(List (Int×Int))) (fun o0c0j1=>[(0,.d (slOf 12 Record.row v0parts)),(1,.d (cB v1last)),(5,.mp 0)]) (fun o0c0j1=>⟨[.map (mEnc (fun n=>Value.int .i64 n) (fun x=>cI x) o0c0j1)],[]⟩) (fun s=>f_correlate_candidates_j1 v0parts v1last s=some r) ?_ ?_
 ·rintro o0c0j1 H
  replace H:f_correlate_candidates_j1 v0parts v1last o0c0j1=some r:=H
  unfold f_correlate_candidates_j1 at H
  refine .A 9 [] rfl trivial ?_
  refine .tok (i:=10) (e:=3) (sz:=1) rfl ?_
  obtain ⟨n1,H⟩:=loop_some H
  refine .loop (ι:=Nat×(List Int×Int)) (fun ⟨_,v10outl1,v11kl1⟩=>[(0,.d (slOf 12 Record.row v0parts)),(1,.d (cB v1last)),(5,.mp 0),(10,.tsl 1 (v10outl1.map rI) 0),(11,.d (cI v11kl1))]) (fun ⟨_,v10outl1,v11kl1⟩=>⟨[.map (mEnc (fun n=>Value.int .i64 n) (fun x=>cI x) o0c0j1)],[⟨3,1,v10outl1.length,none⟩]⟩) (fun p=>iter (fun s=>f_correlate_candidates_l1 v0parts v1last o0c0j1 s.1 s.2) p.1 p.2=some r) (·.1) (n1,(([]:List Int),1)) H (.cons rfl (.rfl' _) (.cons rfl (.rfl' _) (.cons rfl (.rfl' _) (.cons rfl (.rfl' _) (.cons rfl (.rfl' _) (.nil)))))) rfl ?_
  rintro ⟨m1,v10outl1,v11kl1⟩ HI ih1
  obtain ⟨n1,q1,hm1,H,HK1⟩:=iter_succ HI
  clear HI
  replace H:f_correlate_candidates_l1 v0parts v1last o0c0j1 v10outl1 v11kl1=some q1:=H
  unfold f_correlate_candidates_l1 at H
  refine .A 19 [.d (.tup [cI ((alook o0c0j1 v11kl1).getD 0),cB ((alook o0c0j1 v11kl1).isSome)])] rfl (OpQ.g (q_lookupOkD (intKF underlying3) (l:=o0c0j1) (val:=(fun x=>cI x)) (k:=v11kl1) (a0:=0) underlying60 hi3 hz3 (show DLe (cI 0) (cI 0) from .rfl' _) rfl rfl rfl (fun _ _ _ h=>exKey h))) ?_
  refine .ite H rfl (fun H=>?_) (fun H=>?_)
  ·refine .A 5 [] rfl trivial ?_
   refine .R func112 results112 rfl ?_
   cases H
   cases HK1
   exact .m rfl (.tsl _ _ _)
  ·obtain ⟨hk1,H⟩:=ck_some H
   obtain ⟨hk2,H⟩:=ck_some H
   refine .A 20 [.d (slOf 1 rI ([(alook o0c0j1 v11kl1).getD 0]:List Int)),.a 0 3 1 rI (v10outl1++([(alook o0c0j1 v11kl1).getD 0]:List Int)),.d (.ro (Record.row (nth v0parts ((alook o0c0j1 v11kl1).getD 0).toNat)))] rfl ⟨rfl,rfl,rfl,fun hg=>s23.ix rfl rfl rfl (hk2 hg),rfl,rfl,s69.a rfl rfl rfl rfl hk1,g_buildSlice1 underlying69 hi3 hs3 hz3 rfl rfl rfl rfl rfl⟩ ?_
   refine .ite H rfl (fun H=>?_) (fun H=>?_)
   ·refine .A 5 [] rfl trivial ?_
    refine .R func112 results112 rfl ?_
    cases H
    cases HK1
    exact .m rfl (.tsl _ _ _)
   ·obtain ⟨hk3,H⟩:=ck_some H
    refine .A 7 [.i (v11kl1+1)] rfl (g_addI rfl rfl hk3) ?_
    cases H
    exact .z (ih1 (n1,(v10outl1++([(alook o0c0j1 v11kl1).getD 0]:List Int),v11kl1+1)) HK1 hm1) rfl rfl
 ·intro hj1 hj1x
  obtain ⟨n2,H⟩:=loop_some H
  refine .loop (ι:=Nat×(Int×(List (Int×Int)))) (fun ⟨_,v17l2,o0c0l2⟩=>[(0,.d (slOf 12 Record.row v0parts)),(1,.d (cB v1last)),(5,.mp 0),(15,.d (slOf 12 Record.row v0parts)),(16,.d (cI (v0parts.length:Int))),(17,.d (cI v17l2))]) (fun ⟨_,v17l2,o0c0l2⟩=>⟨[.map (mEnc (fun n=>Value.int .i64 n) (fun x=>cI x) o0c0l2)],[]⟩) (fun p=>iter (fun s=>f_correlate_candidates_l2 v0parts v1last s.1 s.2) p.1 p.2=some r) (·.1) (n2,(0,([]:List (Int×Int)))) H (.cons rfl (.rfl' _) (.cons rfl (.rfl' _) (.cons rfl (.rfl' _) (.cons rfl (.rfl' _) (.cons rfl (.rfl' _) (.cons rfl (.rfl' _) (.nil))))))) rfl ?_
  rintro ⟨m1,v17l2,o0c0l2⟩ HI ih1
  obtain ⟨n1,q1,hm1,H,HK1⟩:=iter_succ HI
  clear HI
  replace H:f_correlate_candidates_l2 v0parts v1last v17l2 o0c0l2=some q1:=H
  unfold f_correlate_candidates_l2 at H
  refine .A 5 [] rfl trivial ?_
  refine .ite H rfl (fun H=>?_) (fun H=>?_)
  ·obtain ⟨hk4,H⟩:=ck_some H
   refine .A 29 [.d (.ro (Record.row (nth v0parts v17l2.toNat))),.r 1,.d (.tup [cI ((alook o0c0l2 ((nth v0parts v17l2.toNat).part)).getD 0),cB ((alook o0c0l2 ((nth v0parts v17l2.toNat).part)).isSome)])] rfl ⟨OpQ.g (q_lookupOkD (intKF underlying3) (l:=o0c0l2) (val:=(fun x=>cI x)) (k:=(nth v0parts v17l2.toNat).part) (a0:=0) underlying60 hi3 hz3 (show DLe (cI 0) (cI 0) from .rfl' _) rfl rfl rfl (fun _ _ _ h=>exKey h)),s23.ix rfl rfl rfl hk4⟩ ?_
   refine .ite H rfl (fun H=>?_) (fun H=>?_)
   ·obtain ⟨hk5,H⟩:=ck_some H
    refine .A 12 [.u ⟨[.map (mEnc (fun n=>Value.int .i64 n) (fun x=>cI x) (aset o0c0l2 ((nth v0parts v17l2.toNat).part) v17l2)),.row 49 [.d (cI ((nth v0parts v17l2.toNat).source)),.d (cI ((nth v0parts v17l2.toNat).serial)),.d (cI ((nth v0parts v17l2.toNat).kind)),.d (cS ((nth v0parts v17l2.toNat).a)),.d (cS ((nth v0parts v17l2.toNat).b)),.d (cI ((nth v0parts v17l2.toNat).start)),.d (cI ((nth v0parts v17l2.toNat).units)),.d (cI ((nth v0parts v17l2.toNat).call)),.d (cI ((nth v0parts v17l2.toNat).part)),.d (cB ((nth v0parts v17l2.toNat).last)),.d (cI ((nth v0parts v17l2.toNat).trunk)),.d (cB ((nth v0parts v17l2.toNat).inbound))]],[]⟩,.i (v17l2+1)] rfl ⟨g_addI rfl rfl hk5,.e (u_mapUpdateD (intKF underlying3) (l:=o0c0l2) (val:=(fun x=>cI x)) (k:=(nth v0parts v17l2.toNat).part) (a:=v17l2) underlying60 rfl rfl rfl (fun _ _ _ h=>exKey h) rfl (.rfl' _)) rfl⟩ ?_
    cases H
    exact .t 1 0 (ih1 (n1,(v17l2+1,aset o0c0l2 ((nth v0parts v17l2.toNat).part) v17l2)) HK1 hm1) rfl rfl rfl rfl (okBoth rfl (okCons okMap rfl)) hS rfl
   ·obtain ⟨hk6,H⟩:=ck_some H
    refine .A 6 [.i (v17l2+1)] rfl (g_addI rfl rfl hk6) ?_
    cases H
    exact .t 1 0 (ih1 (n1,(v17l2+1,o0c0l2)) HK1 hm1) rfl rfl rfl rfl (okBoth rfl (okCons okMap rfl)) hS rfl
  ·refine .A 1 [] rfl trivial ?_
   obtain ⟨q0,H9,hq0⟩:=map_some' H; clear H; cases hq0
   cases HK1
   have H:=H9
   exact .z (hj1x o0c0l2 H) rfl rfl
theorem c_f_correlate_pick {v0parts:List Record} {v1at:List Int} {r:(List Record)×(List Record)} (H:f_correlate_pick v0parts v1at=some r):ACall prog 84 [slOf 12 Record.row v0parts,slOf 1 rI v1at] (·=.tup [slOf 12 Record.row r.1,slOf 12 Record.row r.2]):=by
 obtain ⟨i4,hi4,hz4,hs4,hb4⟩:=in_4
 obtain ⟨i49,hi49,hz49,hs49,hb49⟩:=in_49
 refine ACall.enter' func84 rfl ntmps84 rfl fun S hS=>?_
 unfold f_correlate_pick at H
 refine .A 17 [.v (.mp 0) ⟨[.map (mEnc (fun n=>Value.int .i64 n) (fun x=>cB x) ([]:List (Int×Bool)))],[]⟩,.i (v1at.length:Int)] rfl ⟨s69.n rfl rfl,.e (v_makeMap) rfl⟩ ?_
 refine .tok (i:=4) (e:=49) (sz:=12) rfl ?_
 refine .blockJoin2 (ι:=List Record×(List (Int×Bool))) (fun ⟨v4pickedj1,o0c0j1⟩=>[(0,.d (slOf 12 Record.row v0parts)),(4,.tsl 12 (v4pickedj1.map Record.row) 0),(5,.d (nilD)),(6,.mp 0)]) (fun ⟨v4pickedj1,o0c0j1⟩=>⟨[.map (mEnc (fun n=>Value.int .i64 n) (fun x=>cB x) o0c0j1)],[⟨49,12,v4pickedj1.length,none⟩]⟩) (fun s=>f_correlate_pick_j1 v0parts s.1 s.2=some r) ?_ ?_
 ·rintro ⟨v4pickedj1,o0c0j1⟩ H
  replace H:f_correlate_pick_j1 v0parts v4pickedj1 o0c0j1=some r:=H
  unfold f_correlate_pick_j1 at H
  refine .A 8 [.i (v0parts.length:Int)] rfl (s23.n rfl rfl) ?_
  refine .tok (i:=5) (e:=49) (sz:=12) rfl ?_
  obtain ⟨n1,H⟩:=loop_some H
  refine .loop (ι:=Nat×(List Record×Int)) (fun ⟨_,v5othersl1,v30l1⟩=>[(4,.tsl 12 (v4pickedj1.map Record.row) 0),(5,.tsl 12 (v5othersl1.map Record.row) 1),(6,.mp 0),(28,.d (slOf 12 Record.row v0parts)),(29,.d (cI (v0parts.length:Int))),(30,.d (cI v30l1))]) (fun ⟨_,v5othersl1,v30l1⟩=>⟨[.map (mEnc (fun n=>Value.int .i64 n) (fun x=>cB x) o0c0j1)],[⟨49,12,v4pickedj1.length,none⟩,⟨49,12,v5othersl1.length,none⟩]⟩) (fun p=>iter (fun s=>f_correlate_pick_l1 v0parts v4pickedj1 o0c0j1 s.1 s.2) p.1 p.2=some r) (·.1) (n1,(([]:List Record),0)) H (.cons rfl (.rfl' _) (.cons rfl (.rfl' _) (.cons rfl (.rfl' _) (.cons rfl (.rfl' _) (.cons rfl (.rfl' _) (.cons rfl (.rfl' _) (.nil))))))) rfl ?_
  rintro ⟨m1,v5othersl1,v30l1⟩ HI ih1
  obtain ⟨n1,q1,hm1,H,HK1⟩:=iter_succ HI
  clear HI
  replace H:f_correlate_pick_l1 v0parts v4pickedj1 o0c0j1 v5othersl1 v30l1=some q1:=H
  unfold f_correlate_pick_l1 at H
  refine .A 5 [] rfl trivial ?_
  refine .ite H rfl (fun H=>?_) (fun H=>?_)
  ·obtain ⟨hk1,H⟩:=ck_some H
   refine .A 19 [.d (.ro (Record.row (nth v0parts v30l1.toNat))),.r 1,.b ((alook o0c0j1 v30l1).getD false)] rfl ⟨OpQ.g (q_lookupD (intKF underlying3) (l:=o0c0j1) (val:=(fun x=>cB x)) (k:=v30l1) (a0:=false) underlying149 hi4 hz4 (show DLe (cB false) (cB false) from .rfl' _) rfl rfl rfl (fun _ _ _ h=>exKey h)),s23.ix rfl rfl rfl hk1⟩ ?_
   refine .ite H rfl (fun H=>?_) (fun H=>?_)
   ·obtain ⟨hk2,H⟩:=ck_some H
    obtain ⟨hk3,H⟩:=ck_some H
    refine .A 12 [.d (slOf 12 Record.row ([nth v0parts v30l1.toNat]:List Record)),.a 1 49 12 Record.row (v5othersl1++([nth v0parts v30l1.toNat]:List Record)),.i (v30l1+1)] rfl ⟨g_addI rfl rfl hk3,s23.a rfl rfl rfl rfl hk2,g_buildSlice1 underlying23 hi49 hs49 hz49 rfl rfl rfl rfl rfl⟩ ?_
    cases H
    exact .t 1 2 (ih1 (n1,(v5othersl1++([nth v0parts v30l1.toNat]:List Record),v30l1+1)) HK1 hm1) rfl rfl rfl rfl (okBoth rfl (okCons okMap rfl)) hS rfl
   ·obtain ⟨hk4,H⟩:=ck_some H
    refine .A 6 [.i (v30l1+1)] rfl (g_addI rfl rfl hk4) ?_
    cases H
    exact .t 1 2 (ih1 (n1,(v5othersl1,v30l1+1)) HK1 hm1) rfl rfl rfl rfl (okBoth rfl (okCons okMap rfl)) hS rfl
  ·refine .A 8 [] rfl trivial ?_
   refine .R func84 results84 rfl ?_
   cases H
   cases HK1
   exact .m rfl (.tupL ⟨.tsl _ _ _,.tsl _ _ _,trivial⟩)
 ·intro hj1 hj1x
  obtain ⟨n2,H⟩:=loop_some H
  refine .loop (ι:=Nat×(List Record×Int×(List (Int×Bool)))) (fun ⟨_,v4pickedl2,v14l2,o0c0l2⟩=>[(0,.d (slOf 12 Record.row v0parts)),(4,.tsl 12 (v4pickedl2.map Record.row) 0),(5,.d (nilD)),(6,.mp 0),(12,.d (slOf 1 rI v1at)),(13,.d (cI (v1at.length:Int))),(14,.d (cI v14l2))]) (fun ⟨_,v4pickedl2,v14l2,o0c0l2⟩=>⟨[.map (mEnc (fun n=>Value.int .i64 n) (fun x=>cB x) o0c0l2)],[⟨49,12,v4pickedl2.length,none⟩]⟩) (fun p=>iter (fun s=>f_correlate_pick_l2 v0parts v1at s.1 s.2.1 s.2.2) p.1 p.2=some r) (·.1) (n2,(([]:List Record),0,([]:List (Int×Bool)))) H (.cons rfl (.rfl' _) (.cons rfl (.rfl' _) (.cons rfl (.rfl' _) (.cons rfl (.rfl' _) (.cons rfl (.rfl' _) (.cons rfl (.rfl' _) (.cons rfl (.rfl' _) (.nil)))))))) rfl ?_
  rintro ⟨m1,v4pickedl2,v14l2,o0c0l2⟩ HI ih1
  obtain ⟨n1,q1,hm1,H,HK1⟩:=iter_succ HI
  clear HI
  replace H:f_correlate_pick_l2 v0parts v1at v4pickedl2 v14l2 o0c0l2=some q1:=H
  unfold f_correlate_pick_l2 at H
  refine .A 5 [] rfl trivial ?_
  refine .ite H rfl (fun H=>?_) (fun H=>?_)
  ·obtain ⟨hk5,H⟩:=ck_some H
   obtain ⟨hk6,H⟩:=ck_some H
   obtain ⟨hk7,H⟩:=ck_some H
   obtain ⟨hk8,H⟩:=ck_some H
   refine .A 30 [.d (.ro (rI (nth v1at v14l2.toNat))),.u ⟨[.map (mEnc (fun n=>Value.int .i64 n) (fun x=>cB x) (aset o0c0l2 (nth v1at v14l2.toNat) true))],[⟨49,12,v4pickedl2.length,none⟩]⟩,.d (.ro (Record.row (nth v0parts (nth v1at v14l2.toNat).toNat))),.d (slOf 12 Record.row ([nth v0parts (nth v1at v14l2.toNat).toNat]:List Record)),.a 0 49 12 Record.row (v4pickedl2++([nth v0parts (nth v1at v14l2.toNat).toNat]:List Record)),.i (v14l2+1)] rfl ⟨g_addI rfl rfl hk8,s23.a rfl rfl rfl rfl hk7,g_buildSlice1 underlying23 hi49 hs49 hz49 rfl rfl rfl rfl rfl,s23.ix rfl rfl rfl hk6,.e (u_mapUpdateD (intKF underlying3) (l:=o0c0l2) (val:=(fun x=>cB x)) (k:=nth v1at v14l2.toNat) (a:=true) underlying149 rfl rfl rfl (fun _ _ _ h=>exKey h) rfl (.rfl' _)) rfl,s69.ix rfl rfl rfl hk5⟩ ?_
   cases H
   exact .z (ih1 (n1,(v4pickedl2++([nth v0parts (nth v1at v14l2.toNat).toNat]:List Record),v14l2+1,aset o0c0l2 (nth v1at v14l2.toNat) true)) HK1 hm1) rfl rfl
  ·refine .A 1 [] rfl trivial ?_
   obtain ⟨q0,H9,hq0⟩:=map_some' H; clear H; cases hq0
   cases HK1
   have H:=H9
   exact .z (hj1x (v4pickedl2,o0c0l2) H) rfl rfl
theorem c_f_correlate_alone {v0r:Record} {r:Record} (H:f_correlate_alone v0r=some r):ACall prog 87 [.agg (Record.row v0r)] (·=.agg (Record.row r)):=by
 refine ACall.enter' func87 rfl ntmps87 rfl fun S hS=>?_
 unfold f_correlate_alone at H
 refine .A 19 [.r 0,.r 1] rfl trivial ?_
 refine .R func87 results87 rfl ?_
 cases H
 exact .m rfl (.rfl' _)
theorem c_f_validate_Check {v0r:Record} {r:Int} (H:f_validate_Check v0r=some r):ACall prog 53 [.agg (Record.row v0r)] (·=cI r):=by
 refine ACall.enter' func53 rfl ntmps53 rfl fun S hS=>?_
 unfold f_validate_Check at H
 obtain ⟨y1,hy1,H⟩:=bind_some' H
 refine .A 20 [.r 0,.d (.tup [cS y1.1,cI y1.2])] rfl (g_call (en 10 rfl) rfl rfl (c_f_textual_Encode (hy1))) ?_
 refine .R func53 results53 rfl ?_
 cases H
 exact .m rfl (.rfl' _)
theorem c_f_correlate_commonOf {v0r:Record} {r:CorrelateCommon} (H:f_correlate_commonOf v0r=some r):ACall prog 119 [.agg (Record.row v0r)] (·=.agg (CorrelateCommon.row r)):=by
 obtain ⟨i151,hi151,hz151,hs151,hb151⟩:=in_151
 refine ACall.enter' func119 rfl ntmps119 rfl fun S hS=>?_
 unfold f_correlate_commonOf at H
 obtain ⟨y1,hy1,H⟩:=bind_some' H
 refine .A 23 [.r 0,.r 1,.p 13,.d (.agg (CorrelateCall.row y1)),.d (.agg (CorrelateCommon.row (⟨y1,v0r.kind,v0r.a,v0r.b,v0r.trunk,v0r.inbound⟩:CorrelateCommon)))] rfl ⟨OpQ.g (q_buildP pl_151 hi151 hz151 rfl rfl),g_call (en 28 rfl) rfl rfl (c_f_correlate_callOf (hy1)),(show drawB _ _=true by kernel_rfl)⟩ ?_
 refine .R func119 results119 rfl ?_
 cases H
 exact .m rfl (.rfl' _)
theorem c_f_correlate_whole {v0parts:List Record} {r:Record×Bool} (H:f_correlate_whole v0parts=some r):ACall prog 86 [slOf 12 Record.row v0parts] (·=.tup [.agg (Record.row r.1),cB r.2]):=by
 obtain ⟨i49,hi49,hz49,hs49,hb49⟩:=in_49
 refine ACall.enter' func86 rfl ntmps86 rfl fun S hS=>?_
 unfold f_correlate_whole at H
 refine .A 12 [.r 0,.i (v0parts.length:Int)] rfl (s23.n rfl rfl) ?_
 refine .ite H rfl (fun H=>?_) (fun H=>?_)
 ·refine .A 6 [.d (.agg (Record.row (⟨0,0,0,([]:List UInt8),([]:List UInt8),0,0,0,0,false,0,false⟩:Record)))] rfl (OpQ.g (q_buildP pl_49 hi49 hz49 rfl rfl)) ?_
  refine .R func86 results86 rfl ?_
  cases H
  exact .m rfl (.tupD rfl)
 ·obtain ⟨hk1,H⟩:=ck_some H
  obtain ⟨y1,hy1,H⟩:=bind_some' H
  refine .A 22 [.d (.ro (Record.row (nth v0parts (Int.toNat (0))))),.d (.agg (Record.row y1)),.r 1,.i (v0parts.length:Int)] rfl ⟨s23.n rfl rfl,g_call (en 31 rfl) rfl rfl (c_f_correlate_alone (hy1)),s23.ix rfl rfl rfl hk1⟩ ?_
  refine .blockJoin2 (ι:=Int) (fun o1c6j1=>[(2,.ref 0 0),(4,.ref 1 0)]) (fun o1c6j1=>⟨[.row 49 [.d (cI 0),.d (cI 0),.d (cI 0),.d (cS ([]:List UInt8)),.d (cS ([]:List UInt8)),.d (cI 0),.d (cI 0),.d (cI 0),.d (cI 0),.d (cB false),.d (cI 0),.d (cB false)],.row 49 [.d (cI y1.source),.d (cI y1.serial),.d (cI y1.kind),.d (cS y1.a),.d (cS y1.b),.d (cI y1.start),.d (cI o1c6j1),.d (cI y1.call),.d (cI y1.part),.d (cB y1.last),.d (cI y1.trunk),.d (cB y1.inbound)]],[]⟩) (fun s=>f_correlate_whole_j1 y1 s=some r) ?_ ?_
  ·rintro o1c6j1 H
   replace H:f_correlate_whole_j1 y1 o1c6j1=some r:=H
   unfold f_correlate_whole_j1 at H
   obtain ⟨y2,hy2,H⟩:=bind_some' H
   refine .A 7 [.i y2] rfl (g_call (en 32 rfl) rfl rfl (c_f_validate_Check (hy2))) ?_
   refine .ite H rfl (fun H=>?_) (fun H=>?_)
   ·refine .A 6 [.d (.agg (Record.row (⟨0,0,0,([]:List UInt8),([]:List UInt8),0,0,0,0,false,0,false⟩:Record)))] rfl (OpQ.g (q_buildP pl_49 hi49 hz49 rfl rfl)) ?_
    refine .R func86 results86 rfl ?_
    cases H
    exact .m rfl (.tupD rfl)
   ·refine .A 7 [] rfl trivial ?_
    refine .R func86 results86 rfl ?_
    cases H
    exact .m rfl (.tupD rfl)
  ·intro hj1 hj1x
   obtain ⟨n1,H⟩:=loop_some H
   refine .loop (ι:=Nat×(Int×Int)) (fun ⟨_,v18l1,o1c6l1⟩=>[(0,.d (slOf 12 Record.row v0parts)),(2,.ref 0 0),(4,.ref 1 0),(16,.d (slOf 12 Record.row v0parts)),(17,.d (cI (v0parts.length:Int))),(18,.d (cI v18l1))]) (fun ⟨_,v18l1,o1c6l1⟩=>⟨[.row 49 [.d (cI 0),.d (cI 0),.d (cI 0),.d (cS ([]:List UInt8)),.d (cS ([]:List UInt8)),.d (cI 0),.d (cI 0),.d (cI 0),.d (cI 0),.d (cB false),.d (cI 0),.d (cB false)],.row 49 [.d (cI y1.source),.d (cI y1.serial),.d (cI y1.kind),.d (cS y1.a),.d (cS y1.b),.d (cI y1.start),.d (cI o1c6l1),.d (cI y1.call),.d (cI y1.part),.d (cB y1.last),.d (cI y1.trunk),.d (cB y1.inbound)]],[]⟩) (fun p=>iter (fun s=>f_correlate_whole_l1 v0parts y1 s.1 s.2) p.1 p.2=some r) (·.1) (n1,(0,0)) H (.cons rfl (.rfl' _) (.cons rfl (.rfl' _) (.cons rfl (.rfl' _) (.cons rfl (.rfl' _) (.cons rfl (.rfl' _) (.cons rfl (.rfl' _) (.nil))))))) rfl ?_
   rintro ⟨m1,v18l1,o1c6l1⟩ HI ih1
   obtain ⟨n1,q1,hm1,H,HK1⟩:=iter_succ HI
   clear HI
   replace H:f_correlate_whole_l1 v0parts y1 v18l1 o1c6l1=some q1:=H
   unfold f_correlate_whole_l1 at H
   refine .A 5 [] rfl trivial ?_
   refine .ite H rfl (fun H=>?_) (fun H=>?_)
   ·obtain ⟨hk2,H⟩:=ck_some H
    obtain ⟨y3,hy3,H⟩:=bind_some' H
    obtain ⟨y4,hy4,H⟩:=bind_some' H
    obtain ⟨hk3,H⟩:=ck_some H
    obtain ⟨y5,hy5,H⟩:=bind_some' H
    obtain ⟨hk4,H⟩:=ck_some H
    refine .A 40 [.d (.ro (Record.row (nth v0parts v18l1.toNat))),.r 2,.p 25,.i y3,.d (.agg (CorrelateCommon.row y4)),.d (.ro (Record.row (nth v0parts (Int.toNat (0))))),.d (.agg (CorrelateCommon.row y5)),.b (!(eqVs (CorrelateCommon.vals y4) (CorrelateCommon.vals y5))),.i (1099511627776-o1c6l1)] rfl ⟨rfl,rfl,rfl,fun hg=>g_subI rfl rfl (hk4 hg),rfl,rfl,rfl,rfl,fun hg=>OpQ.g (q_gtneq fg_151 rfl rfl (xs:=CorrelateCommon.vals y4) (ys:=CorrelateCommon.vals y5) rfl rfl rfl rfl),rfl,rfl,fun hg=>g_call (en 33 rfl) rfl rfl (c_f_correlate_commonOf (gcall_some hy5 hg)),rfl,rfl,fun hg=>s23.ix rfl rfl rfl (hk3 hg),rfl,fun hg=>g_call (en 33 rfl) rfl rfl (c_f_correlate_commonOf (gcall_some hy4 hg)),rfl,rfl,rfl,fun hg=>g_call (en 32 rfl) rfl rfl (c_f_validate_Check (gcall_some hy3 hg)),rfl,(show drawB _ _=true by kernel_rfl),s23.ix rfl rfl rfl hk2⟩ ?_
    refine .ite H rfl (fun H=>?_) (fun H=>?_)
    ·refine .A 6 [.d (.agg (Record.row (⟨0,0,0,([]:List UInt8),([]:List UInt8),0,0,0,0,false,0,false⟩:Record)))] rfl (OpQ.g (q_buildP pl_49 hi49 hz49 rfl rfl)) ?_
     refine .R func86 results86 rfl ?_
     cases H
     cases HK1
     exact .m rfl (.tupD rfl)
    ·obtain ⟨hk5,H⟩:=ck_some H
     obtain ⟨hk6,H⟩:=ck_some H
     refine .A 15 [.i (o1c6l1+((nth v0parts v18l1.toNat).units)),.i (v18l1+1)] rfl ⟨g_addI rfl rfl hk6,g_addI rfl rfl hk5⟩ ?_
     cases H
     exact .t 2 0 (ih1 (n1,(v18l1+1,o1c6l1+((nth v0parts v18l1.toNat).units))) HK1 hm1) rfl rfl rfl rfl rfl hS rfl
   ·refine .A 1 [] rfl trivial ?_
    obtain ⟨q0,H9,hq0⟩:=map_some' H; clear H; cases hq0
    cases HK1
    have H:=H9
    exact .z (hj1x o1c6l1 H) rfl rfl
theorem c_f_correlate_Complete {v0parts:List Record} {r:Record×Bool} (H:f_correlate_Complete v0parts=some r):ACall prog 113 [slOf 12 Record.row v0parts] (·=.tup [.agg (Record.row r.1),cB r.2]):=by
 obtain ⟨i49,hi49,hz49,hs49,hb49⟩:=in_49
 refine ACall.enter' func113 rfl ntmps113 rfl fun S hS=>?_
 unfold f_correlate_Complete at H
 refine .A 12 [.r 0,.i (v0parts.length:Int)] rfl (s23.n rfl rfl) ?_
 refine .blockJoin2 (ι:=Unit) (fun _=>[(0,.d (slOf 12 Record.row v0parts)),(2,.ref 0 0)]) (fun _=>⟨[.row 49 [.d (cI 0),.d (cI 0),.d (cI 0),.d (cS ([]:List UInt8)),.d (cS ([]:List UInt8)),.d (cI 0),.d (cI 0),.d (cI 0),.d (cI 0),.d (cB false),.d (cI 0),.d (cB false)]],[]⟩) (fun s=>f_correlate_Complete_j1 v0parts=some r) ?_ ?_
 ·rintro _ H
  replace H:f_correlate_Complete_j1 v0parts=some r:=H
  unfold f_correlate_Complete_j1 at H
  obtain ⟨y1,hy1,H⟩:=bind_some' H
  refine .A 9 [.d (.tup [.agg (Record.row y1.1),cB y1.2])] rfl (g_call (en 34 rfl) rfl rfl (c_f_correlate_whole (hy1))) ?_
  refine .R func113 results113 rfl ?_
  cases H
  exact .m rfl (.tupD rfl)
 ·intro hj1 hj1x
  obtain ⟨n1,H⟩:=loop_some H
  refine .loop (ι:=Nat×(Int)) (fun ⟨_,v8l1⟩=>[(0,.d (slOf 12 Record.row v0parts)),(2,.ref 0 0),(6,.d (slOf 12 Record.row v0parts)),(7,.d (cI (v0parts.length:Int))),(8,.d (cI v8l1))]) (fun ⟨_,v8l1⟩=>⟨[.row 49 [.d (cI 0),.d (cI 0),.d (cI 0),.d (cS ([]:List UInt8)),.d (cS ([]:List UInt8)),.d (cI 0),.d (cI 0),.d (cI 0),.d (cI 0),.d (cB false),.d (cI 0),.d (cB false)]],[]⟩) (fun p=>iter (fun s=>f_correlate_Complete_l1 v0parts s) p.1 p.2=some r) (·.1) (n1,0) H (.cons rfl (.rfl' _) (.cons rfl (.rfl' _) (.cons rfl (.rfl' _) (.cons rfl (.rfl' _) (.cons rfl (.rfl' _) (.nil)))))) rfl ?_
  rintro ⟨m1,v8l1⟩ HI ih1
  obtain ⟨n1,q1,hm1,H,HK1⟩:=iter_succ HI
  clear HI
  replace H:f_correlate_Complete_l1 v0parts v8l1=some q1:=H
  unfold f_correlate_Complete_l1 at H
  refine .A 5 [] rfl trivial ?_
  refine .ite H rfl (fun H=>?_) (fun H=>?_)
  ·obtain ⟨hk1,H⟩:=ck_some H
   obtain ⟨hk2,H⟩:=ck_some H
   obtain ⟨hk3,H⟩:=ck_some H
   refine .A 30 [.d (.ro (Record.row (nth v0parts v8l1.toNat))),.r 1,.i (v8l1+1),.i (v0parts.length:Int),.i ((v0parts.length:Int) - 1),.b (((nth v0parts v8l1.toNat).last) != (v8l1==((v0parts.length:Int) - 1)))] rfl ⟨rfl,fun hg=>OpQ.g (q_bneq rfl underlying4 rfl),rfl,rfl,rfl,rfl,fun hg=>g_subI rfl rfl (hk3 hg),rfl,fun hg=>s23.n rfl rfl,rfl,rfl,g_addI rfl rfl hk2,s23.ix rfl rfl rfl hk1⟩ ?_
   refine .ite H rfl (fun H=>?_) (fun H=>?_)
   ·refine .A 6 [.d (.agg (Record.row (⟨0,0,0,([]:List UInt8),([]:List UInt8),0,0,0,0,false,0,false⟩:Record)))] rfl (OpQ.g (q_buildP pl_49 hi49 hz49 rfl rfl)) ?_
    refine .R func113 results113 rfl ?_
    cases H
    cases HK1
    exact .m rfl (.tupD rfl)
   ·obtain ⟨hk4,H⟩:=ck_some H
    refine .A 6 [.i (v8l1+1)] rfl (g_addI rfl rfl hk4) ?_
    cases H
    exact .t 1 0 (ih1 (n1,(v8l1+1)) HK1 hm1) rfl rfl rfl rfl rfl hS rfl
  ·refine .A 1 [] rfl trivial ?_
   obtain ⟨q0,H9,hq0⟩:=map_some' H; clear H; cases hq0
   cases HK1
   have H:=H9
   exact .z (hj1x () H) rfl rfl
theorem c_g_api_Record_v1 {o0c0p:CorrelateCall} {y0t0p:List Record} {n0p:Nat} {r:Int} (H:g_api_Record_v1 o0c0p y0t0p=some r):ACallS prog 117 [.vc 0 n0p,.clo 118 [.ref 0 0]] ⟨[.row 114 [.d (cI o0c0p.source),.d (cI o0c0p.number)]],[⟨49,12,n0p,some (y0t0p.map Record.row)⟩]⟩ (QE (.d (cI r)) ⟨[.row 114 [.d (cI o0c0p.source),.d (cI o0c0p.number)]],[⟨49,12,n0p,some (y0t0p.map Record.row)⟩]⟩):=by
 obtain ⟨i49,hi49,hz49,hs49,hb49⟩:=in_49
 refine ACallS.keep ?_
 refine ACallS.enter func117 rfl ntmps117 rfl fun S hS=>?_
 unfold g_api_Record_v1 at H
 refine .A 12 [.i (y0t0p.length:Int)] rfl (OpQ.g (q_lenV (l:=y0t0p) (row:=Record.row) underlying23 rfl rfl)) ?_
 obtain ⟨n1,H⟩:=loop_some H
 refine .loop (ι:=Nat×(Int)) (fun ⟨_,v8l1⟩=>[(0,.vc 0 n0p),(1,.clo 118 [.ref 0 0]),(7,.d (cI (y0t0p.length:Int))),(8,.d (cI v8l1))]) (fun ⟨_,v8l1⟩=>⟨[.row 114 [.d (cI o0c0p.source),.d (cI o0c0p.number)]],[⟨49,12,n0p,some (y0t0p.map Record.row)⟩]⟩) (fun p=>iter (fun s=>g_api_Record_v1_l1 o0c0p y0t0p s) p.1 p.2=some r) (·.1) (n1,0) H (.cons rfl (.rfl' _) (.cons rfl (.rfl' _) (.cons rfl (.rfl' _) (.cons rfl (.rfl' _) (.nil))))) rfl ?_
 rintro ⟨m1,v8l1⟩ HI ih1
 obtain ⟨n1,q1,hm1,H,HK1⟩:=iter_succ HI
 clear HI
 replace H:g_api_Record_v1_l1 o0c0p y0t0p v8l1=some q1:=H
 unfold g_api_Record_v1_l1 at H
 refine .A 5 [] rfl trivial ?_
 refine .ite H rfl (fun H=>?_) (fun H=>?_)
 ·obtain ⟨hk1,H⟩:=ck_some H
  obtain ⟨hk2,H⟩:=ck_some H
  obtain ⟨y1,hy1,H⟩:=bind_some' H
  refine .B 15 [.g (.vp 0 n0p v8l1.toNat 0),.f 1 (.d (.agg (Record.row (nth y0t0p v8l1.toNat))))] rfl ⟨OpQ.g (q_loadVpA (l:=y0t0p) (row:=Record.row) (cs:=(Record.row (nth y0t0p v8l1.toNat))) one_49 sz_49 rfl rfl hk2 (Nat.le_of_ble_eq_true rfl) rfl),OpQ.g (q_idxV (l:=y0t0p) (row:=Record.row) (i:=v8l1) underlying23 hi49 hs49 rfl rfl rfl hk1)⟩ ?_
  refine .callFC (en 29 rfl) rfl rfl [0] [] (x:=.d (cB y1)) (st':=⟨[.row 114 [.d (cI o0c0p.source),.d (cI o0c0p.number)]],[⟨49,12,n0p,some (y0t0p.map Record.row)⟩]⟩) rfl (c_g_correlate_span_1 (hy1)) ⟨.rfl' _,.rfl' _,trivial⟩ rfl rfl rfl rfl rfl rfl ?_
  refine .A 1 [] rfl trivial ?_
  refine .ite H rfl (fun H=>?_) (fun H=>?_)
  ·refine .A 5 [] rfl trivial ?_
   refine .R func117 results117 rfl ?_
   cases H
   cases HK1
   exact ⟨[0],[0],rfl,rfl,rfl,rfl,rfl,rfl,rfl,rfl,.rfl' _⟩
  ·obtain ⟨hk3,H⟩:=ck_some H
   refine .A 6 [.i (v8l1+1)] rfl (g_addI rfl rfl hk3) ?_
   cases H
   exact .z (ih1 (n1,(v8l1+1)) HK1 hm1) rfl rfl
 ·refine .A 5 [] rfl trivial ?_
  refine .R func117 results117 rfl ?_
  cases H
  cases HK1
  exact ⟨[0],[0],rfl,rfl,rfl,rfl,rfl,rfl,rfl,rfl,.rfl' _⟩
theorem c_g_correlate_span {v1c:CorrelateCall} {y0t0p:List Record} {n0p:Nat} {r:Int×Int} (H:g_correlate_span v1c y0t0p=some r):ACallS prog 81 [.vc 0 n0p,.d (.agg (CorrelateCall.row v1c))] ⟨[],[⟨49,12,n0p,some (y0t0p.map Record.row)⟩]⟩ (QE (.d (.tup [cI r.1,cI r.2])) ⟨[],[⟨49,12,n0p,some (y0t0p.map Record.row)⟩]⟩):=by
 obtain ⟨i49,hi49,hz49,hs49,hb49⟩:=in_49
 refine ACallS.keep ?_
 refine ACallS.enter func81 rfl ntmps81 rfl fun S hS=>?_
 unfold g_correlate_span at H
 obtain ⟨y1,hy1,H⟩:=bind_some' H
 refine .B 10 [.r 0,.g (.clo 118 [.ref 0 0])] rfl (OpQ.g (q_makeFunc rfl)) ?_
 refine .callF (en 30 rfl) rfl [0] [0] (x:=.d (cI y1)) (st':=⟨[.row 114 [.d (cI v1c.source),.d (cI v1c.number)]],[⟨49,12,n0p,some (y0t0p.map Record.row)⟩]⟩) rfl (c_g_api_Record_v1 (hy1)) ⟨.rfl' _,.rfl' _,trivial⟩ rfl rfl rfl rfl rfl rfl ?_
 refine .A 8 [] rfl trivial ?_
 refine .ite H rfl (fun H=>?_) (fun H=>?_)
 ·refine .A 5 [] rfl trivial ?_
  refine .R func81 results81 rfl ?_
  cases H
  exact ⟨[],[0],rfl,rfl,rfl,rfl,rfl,rfl,rfl,rfl,.tupL (ds:=[cI 0,cI 0]) ⟨.rfl' _,.rfl' _,trivial⟩⟩
 ·refine .A 8 [] rfl trivial ?_
  obtain ⟨n1,H⟩:=loop_some H
  refine .loop (ι:=Nat×(Int)) (fun ⟨_,v5tol1⟩=>[(0,.vc 0 n0p),(3,.ref 0 0),(4,.d (cI y1)),(5,.d (cI v5tol1))]) (fun ⟨_,v5tol1⟩=>⟨[.row 114 [.d (cI v1c.source),.d (cI v1c.number)]],[⟨49,12,n0p,some (y0t0p.map Record.row)⟩]⟩) (fun p=>iter (fun s=>g_correlate_span_l1 v1c y0t0p y1 s) p.1 p.2=some r) (·.1) (n1,y1) H (.cons rfl (.rfl' _) (.cons rfl (.rfl' _) (.cons rfl (.rfl' _) (.cons rfl (.rfl' _) (.nil))))) rfl ?_
  rintro ⟨m1,v5tol1⟩ HI ih1
  obtain ⟨n1,q1,hm1,H,HK1⟩:=iter_succ HI
  clear HI
  replace H:g_correlate_span_l1 v1c y0t0p y1 v5tol1=some q1:=H
  unfold g_correlate_span_l1 at H
  obtain ⟨hk1,H⟩:=ck_some H
  obtain ⟨hk2,H⟩:=ck_some H
  obtain ⟨y2,hy2,H⟩:=bind_some' H
  refine .A 18 [.p 13,.i (y0t0p.length:Int),.g (.vp 0 n0p v5tol1.toNat 0),.f 7 (.d (.agg (Record.row (nth y0t0p v5tol1.toNat)))),.d (.agg (CorrelateCall.row y2)),.b (eqVs (CorrelateCall.vals y2) (CorrelateCall.vals v1c))] rfl ⟨rfl,fun hg=>OpQ.g (q_steql fk_114 rfl rfl (xs:=CorrelateCall.vals y2) (ys:=CorrelateCall.vals v1c) rfl rfl rfl rfl),rfl,rfl,fun hg=>g_call (en 28 rfl) rfl rfl (c_f_correlate_callOf (gcall_some hy2 hg)),rfl,fun hg=>OpQ.g (q_loadVpA (l:=y0t0p) (row:=Record.row) (cs:=(Record.row (nth y0t0p v5tol1.toNat))) one_49 sz_49 rfl rfl (hk2 hg) (Nat.le_of_ble_eq_true rfl) rfl),rfl,fun hg=>OpQ.g (q_idxV (l:=y0t0p) (row:=Record.row) (i:=v5tol1) underlying23 hi49 hs49 rfl rfl rfl (hk1 hg)),rfl,rfl,OpQ.g (q_lenV (l:=y0t0p) (row:=Record.row) underlying23 rfl rfl),(show drawB _ _=true by kernel_rfl)⟩ ?_
  refine .ite H rfl (fun H=>?_) (fun H=>?_)
  ·obtain ⟨hk3,H⟩:=ck_some H
   refine .A 8 [.i (v5tol1+1)] rfl (g_addI rfl rfl hk3) ?_
   cases H
   exact .z (ih1 (n1,(v5tol1+1)) HK1 hm1) rfl rfl
  ·refine .A 8 [] rfl trivial ?_
   refine .R func81 results81 rfl ?_
   cases H
   cases HK1
   exact ⟨[],[0],rfl,rfl,rfl,rfl,rfl,rfl,rfl,rfl,.tupL (ds:=[cI y1,cI v5tol1]) ⟨.rfl' _,.rfl' _,trivial⟩⟩
theorem c_g_correlate_candidates {v0parts:List Record} {v1last:Bool} {n0p:Nat} {y0t0p:List Record} {lo_v0parts:Nat} (hw_v0parts:(y0t0p.drop lo_v0parts).take v0parts.length=v0parts) {r:(List Int)} (H:g_correlate_candidates v0parts v1last=some r):ACallS prog 112 [.vw 0 n0p lo_v0parts v0parts.length,.d (cB v1last)] ⟨[],[⟨49,12,n0p,some (y0t0p.map Record.row)⟩]⟩ (QE (.d (slOf 1 rI r)) ⟨[],[⟨49,12,n0p,some (y0t0p.map Record.row)⟩]⟩):=by
 obtain ⟨i3,hi3,hz3,hs3,hb3⟩:=in_3
 obtain ⟨i49,hi49,hz49,hs49,hb49⟩:=in_49
 refine ACallS.keep ?_
 refine ACallS.enter func112 rfl ntmps112 rfl fun S hS=>?_
 unfold g_correlate_candidates at H
 refine .A 16 [.v (.mp 0) ⟨[.map (mEnc (fun n=>Value.int .i64 n) (fun x=>cI x) ([]:List (Int×Int)))],[⟨49,12,n0p,some (y0t0p.map Record.row)⟩]⟩,.i (v0parts.length:Int)] rfl ⟨OpQ.g (q_lenW underlying23 rfl),.e (v_makeMap) rfl⟩ ?_
 refine .blockJoin2 (ι:=(List (Int×Int))) (fun o0c0j1=>[(0,.vw 0 n0p lo_v0parts v0parts.length),(1,.d (cB v1last)),(5,.mp 0)]) (fun o0c0j1=>⟨[.map (mEnc (fun n=>Value.int .i64 n) (fun x=>cI x) o0c0j1)],[⟨49,12,n0p,some (y0t0p.map Record.row)⟩]⟩) (fun s=>g_correlate_candidates_j1 v0parts v1last s=some r) ?_ ?_
 ·rintro o0c0j1 H
  replace H:g_correlate_candidates_j1 v0parts v1last o0c0j1=some r:=H
  unfold g_correlate_candidates_j1 at H
  refine .A 9 [] rfl trivial ?_
  refine .tok (i:=10) (e:=3) (sz:=1) rfl ?_
  obtain ⟨n1,H⟩:=loop_some H
  refine .loop (ι:=Nat×(List Int×Int)) (fun ⟨_,v10outl1,v11kl1⟩=>[(0,.vw 0 n0p lo_v0parts v0parts.length),(1,.d (cB v1last)),(5,.mp 0),(10,.tsl 1 (v10outl1.map rI) 1),(11,.d (cI v11kl1))]) (fun ⟨_,v10outl1,v11kl1⟩=>⟨[.map (mEnc (fun n=>Value.int .i64 n) (fun x=>cI x) o0c0j1)],[⟨49,12,n0p,some (y0t0p.map Record.row)⟩,⟨3,1,v10outl1.length,none⟩]⟩) (fun p=>iter (fun s=>g_correlate_candidates_l1 v0parts v1last o0c0j1 s.1 s.2) p.1 p.2=some r) (·.1) (n1,(([]:List Int),1)) H (.cons rfl (.rfl' _) (.cons rfl (.rfl' _) (.cons rfl (.rfl' _) (.cons rfl (.rfl' _) (.cons rfl (.rfl' _) (.nil)))))) rfl ?_
  rintro ⟨m1,v10outl1,v11kl1⟩ HI ih1
  obtain ⟨n1,q1,hm1,H,HK1⟩:=iter_succ HI
  clear HI
  replace H:g_correlate_candidates_l1 v0parts v1last o0c0j1 v10outl1 v11kl1=some q1:=H
  unfold g_correlate_candidates_l1 at H
  refine .A 19 [.d (.tup [cI ((alook o0c0j1 v11kl1).getD 0),cB ((alook o0c0j1 v11kl1).isSome)])] rfl (OpQ.g (q_lookupOkD (intKF underlying3) (l:=o0c0j1) (val:=(fun x=>cI x)) (k:=v11kl1) (a0:=0) underlying60 hi3 hz3 (show DLe (cI 0) (cI 0) from .rfl' _) rfl rfl rfl (fun _ _ _ h=>exKey h))) ?_
  refine .ite H rfl (fun H=>?_) (fun H=>?_)
  ·refine .A 5 [] rfl trivial ?_
   refine .R func112 results112 rfl ?_
   cases H
   cases HK1
   exact ⟨[],[0],rfl,rfl,(by first | rfl | (simp only [List.map_cons,List.map_nil,renMap,renArr,mergeSt]; rfl)),(by first | rfl | (simp only [List.map_cons,List.map_nil,renMap,renArr,mergeSt]; rfl)),(by first | rfl | (simp only [List.map_cons,List.map_nil,renMap,renArr,mergeSt]; rfl)),(by first | rfl | (simp only [List.map_cons,List.map_nil,renMap,renArr,mergeSt]; rfl)),(by first | rfl | (simp only [List.map_cons,List.map_nil,renMap,renArr,mergeSt]; rfl)),(by first | rfl | (simp only [List.map_cons,List.map_nil,renMap,renArr,mergeSt]; rfl)),.tsl _ _ _⟩
  ·obtain ⟨hk1,H⟩:=ck_some H
   obtain ⟨hk2,H⟩:=ck_some H
   obtain ⟨hk3,H⟩:=ck_some H
   refine .A 20 [.d (slOf 1 rI ([(alook o0c0j1 v11kl1).getD 0]:List Int)),.a 1 3 1 rI (v10outl1++([(alook o0c0j1 v11kl1).getD 0]:List Int)),.g (.vp 0 n0p (lo_v0parts+((alook o0c0j1 v11kl1).getD 0).toNat) 0),.f 3 (.d (cB ((nth v0parts ((alook o0c0j1 v11kl1).getD 0).toNat).last)))] rfl ⟨rfl,fun hg=>OpQ.g (q_loadVpW (l:=y0t0p) (a:=v0parts) (row:=Record.row) (lo:=lo_v0parts) (i:=((alook o0c0j1 v11kl1).getD 0).toNat) hw_v0parts one_4 rfl rfl (hk3 hg) rfl),rfl,rfl,fun hg=>OpQ.g (q_idxW (row:=Record.row) (l:=y0t0p) (i:=(alook o0c0j1 v11kl1).getD 0) underlying23 hi49 hs49 rfl rfl rfl (hk2 hg)),rfl,rfl,s69.a rfl rfl rfl rfl hk1,g_buildSlice1 underlying69 hi3 hs3 hz3 rfl rfl rfl rfl rfl⟩ ?_
   refine .ite H rfl (fun H=>?_) (fun H=>?_)
   ·refine .A 5 [] rfl trivial ?_
    refine .R func112 results112 rfl ?_
    cases H
    cases HK1
    exact ⟨[],[0],rfl,rfl,(by first | rfl | (simp only [List.map_cons,List.map_nil,renMap,renArr,mergeSt]; rfl)),(by first | rfl | (simp only [List.map_cons,List.map_nil,renMap,renArr,mergeSt]; rfl)),(by first | rfl | (simp only [List.map_cons,List.map_nil,renMap,renArr,mergeSt]; rfl)),(by first | rfl | (simp only [List.map_cons,List.map_nil,renMap,renArr,mergeSt]; rfl)),(by first | rfl | (simp only [List.map_cons,List.map_nil,renMap,renArr,mergeSt]; rfl)),(by first | rfl | (simp only [List.map_cons,List.map_nil,renMap,renArr,mergeSt]; rfl)),.tsl _ _ _⟩
   ·obtain ⟨hk4,H⟩:=ck_some H
    refine .A 7 [.i (v11kl1+1)] rfl (g_addI rfl rfl hk4) ?_
    cases H
    exact .z (ih1 (n1,(v10outl1++([(alook o0c0j1 v11kl1).getD 0]:List Int),v11kl1+1)) HK1 hm1) rfl rfl
 ·intro hj1 hj1x
  obtain ⟨n2,H⟩:=loop_some H
  refine .loop (ι:=Nat×(Int×(List (Int×Int)))) (fun ⟨_,v17l2,o0c0l2⟩=>[(0,.vw 0 n0p lo_v0parts v0parts.length),(1,.d (cB v1last)),(5,.mp 0),(15,.vw 0 n0p lo_v0parts v0parts.length),(16,.d (cI (v0parts.length:Int))),(17,.d (cI v17l2))]) (fun ⟨_,v17l2,o0c0l2⟩=>⟨[.map (mEnc (fun n=>Value.int .i64 n) (fun x=>cI x) o0c0l2)],[⟨49,12,n0p,some (y0t0p.map Record.row)⟩]⟩) (fun p=>iter (fun s=>g_correlate_candidates_l2 v0parts v1last s.1 s.2) p.1 p.2=some r) (·.1) (n2,(0,([]:List (Int×Int)))) H (.cons rfl (.rfl' _) (.cons rfl (.rfl' _) (.cons rfl (.rfl' _) (.cons rfl (.rfl' _) (.cons rfl (.rfl' _) (.cons rfl (.rfl' _) (.nil))))))) rfl ?_
  rintro ⟨m1,v17l2,o0c0l2⟩ HI ih1
  obtain ⟨n1,q1,hm1,H,HK1⟩:=iter_succ HI
  clear HI
  replace H:g_correlate_candidates_l2 v0parts v1last v17l2 o0c0l2=some q1:=H
  unfold g_correlate_candidates_l2 at H
  refine .A 5 [] rfl trivial ?_
  refine .ite H rfl (fun H=>?_) (fun H=>?_)
  ·obtain ⟨hk5,H⟩:=ck_some H
   obtain ⟨hk6,H⟩:=ck_some H
   refine .A 29 [.g (.vp 0 n0p (lo_v0parts+v17l2.toNat) 0),.f 22 (.d (.agg (Record.row (nth v0parts v17l2.toNat)))),.r 1,.d (.tup [cI ((alook o0c0l2 ((nth v0parts v17l2.toNat).part)).getD 0),cB ((alook o0c0l2 ((nth v0parts v17l2.toNat).part)).isSome)])] rfl ⟨OpQ.g (q_lookupOkD (intKF underlying3) (l:=o0c0l2) (val:=(fun x=>cI x)) (k:=(nth v0parts v17l2.toNat).part) (a0:=0) underlying60 hi3 hz3 (show DLe (cI 0) (cI 0) from .rfl' _) rfl rfl rfl (fun _ _ _ h=>exKey h)),OpQ.g (q_loadVpAW (l:=y0t0p) (a:=v0parts) (row:=Record.row) (lo:=lo_v0parts) (i:=v17l2.toNat) (cs:=(Record.row (nth v0parts v17l2.toNat))) hw_v0parts one_49 sz_49 rfl rfl hk6 (Nat.le_of_ble_eq_true rfl) rfl),OpQ.g (q_idxW (row:=Record.row) (l:=y0t0p) (i:=v17l2) underlying23 hi49 hs49 rfl rfl rfl hk5)⟩ ?_
   refine .ite H rfl (fun H=>?_) (fun H=>?_)
   ·obtain ⟨hk7,H⟩:=ck_some H
    refine .A 12 [.u ⟨[.map (mEnc (fun n=>Value.int .i64 n) (fun x=>cI x) (aset o0c0l2 ((nth v0parts v17l2.toNat).part) v17l2)),.row 49 [.d (cI ((nth v0parts v17l2.toNat).source)),.d (cI ((nth v0parts v17l2.toNat).serial)),.d (cI ((nth v0parts v17l2.toNat).kind)),.d (cS ((nth v0parts v17l2.toNat).a)),.d (cS ((nth v0parts v17l2.toNat).b)),.d (cI ((nth v0parts v17l2.toNat).start)),.d (cI ((nth v0parts v17l2.toNat).units)),.d (cI ((nth v0parts v17l2.toNat).call)),.d (cI ((nth v0parts v17l2.toNat).part)),.d (cB ((nth v0parts v17l2.toNat).last)),.d (cI ((nth v0parts v17l2.toNat).trunk)),.d (cB ((nth v0parts v17l2.toNat).inbound))]],[⟨49,12,n0p,some (y0t0p.map Record.row)⟩]⟩,.i (v17l2+1)] rfl ⟨g_addI rfl rfl hk7,.e (u_mapUpdateD (intKF underlying3) (l:=o0c0l2) (val:=(fun x=>cI x)) (k:=(nth v0parts v17l2.toNat).part) (a:=v17l2) underlying60 rfl rfl rfl (fun _ _ _ h=>exKey h) rfl (.rfl' _)) rfl⟩ ?_
    cases H
    exact .t 1 1 (ih1 (n1,(v17l2+1,aset o0c0l2 ((nth v0parts v17l2.toNat).part) v17l2)) HK1 hm1) rfl rfl rfl rfl (okBoth rfl (okCons okMap rfl)) hS rfl
   ·obtain ⟨hk8,H⟩:=ck_some H
    refine .A 6 [.i (v17l2+1)] rfl (g_addI rfl rfl hk8) ?_
    cases H
    exact .t 1 1 (ih1 (n1,(v17l2+1,o0c0l2)) HK1 hm1) rfl rfl rfl rfl (okBoth rfl (okCons okMap rfl)) hS rfl
  ·refine .A 1 [] rfl trivial ?_
   obtain ⟨q0,H9,hq0⟩:=map_some' H; clear H; cases hq0
   cases HK1
   have H:=H9
   exact .z (hj1x o0c0l2 H) rfl rfl
set_option maxRecDepth 100000
set_option maxHeartbeats 1000000
theorem c_g_correlate_pick {v0parts:List Record} {v1at:List Int} {n0p:Nat} {y0t0p:List Record} {lo_v0parts:Nat} (hw_v0parts:(y0t0p.drop lo_v0parts).take v0parts.length=v0parts) {r:(List Record)×(List Record)} (H:g_correlate_pick v0parts v1at=some r):ACallS prog 84 [.vw 0 n0p lo_v0parts v0parts.length,.d (slOf 1 rI v1at)] ⟨[],[⟨49,12,n0p,some (y0t0p.map Record.row)⟩]⟩ (QE (.d (.tup [slOf 12 Record.row r.1,slOf 12 Record.row r.2])) ⟨[],[⟨49,12,n0p,some (y0t0p.map Record.row)⟩]⟩):=by
 obtain ⟨i4,hi4,hz4,hs4,hb4⟩:=in_4
 obtain ⟨i49,hi49,hz49,hs49,hb49⟩:=in_49
 refine ACallS.keep ?_
 refine ACallS.enter func84 rfl ntmps84 rfl fun S hS=>?_
 unfold g_correlate_pick at H
 refine .A 17 [.v (.mp 0) ⟨[.map (mEnc (fun n=>Value.int .i64 n) (fun x=>cB x) ([]:List (Int×Bool)))],[⟨49,12,n0p,some (y0t0p.map Record.row)⟩]⟩,.i (v1at.length:Int)] rfl ⟨s69.n rfl rfl,.e (v_makeMap) rfl⟩ ?_
 refine .tok (i:=4) (e:=49) (sz:=12) rfl ?_
 refine .blockJoin2 (ι:=List Record×(List (Int×Bool))) (fun ⟨v4pickedj1,o0c0j1⟩=>[(0,.vw 0 n0p lo_v0parts v0parts.length),(4,.tsl 12 (v4pickedj1.map Record.row) 1),(5,.d (nilD)),(6,.mp 0)]) (fun ⟨v4pickedj1,o0c0j1⟩=>⟨[.map (mEnc (fun n=>Value.int .i64 n) (fun x=>cB x) o0c0j1)],[⟨49,12,n0p,some (y0t0p.map Record.row)⟩,⟨49,12,v4pickedj1.length,none⟩]⟩) (fun s=>g_correlate_pick_j1 v0parts s.1 s.2=some r) ?_ ?_
 ·rintro ⟨v4pickedj1,o0c0j1⟩ H
  replace H:g_correlate_pick_j1 v0parts v4pickedj1 o0c0j1=some r:=H
  unfold g_correlate_pick_j1 at H
  refine .A 8 [.i (v0parts.length:Int)] rfl (OpQ.g (q_lenW underlying23 rfl)) ?_
  refine .tok (i:=5) (e:=49) (sz:=12) rfl ?_
  obtain ⟨n1,H⟩:=loop_some H
  refine .loop (ι:=Nat×(List Record×Int)) (fun ⟨_,v5othersl1,v30l1⟩=>[(4,.tsl 12 (v4pickedj1.map Record.row) 1),(5,.tsl 12 (v5othersl1.map Record.row) 2),(6,.mp 0),(28,.vw 0 n0p lo_v0parts v0parts.length),(29,.d (cI (v0parts.length:Int))),(30,.d (cI v30l1))]) (fun ⟨_,v5othersl1,v30l1⟩=>⟨[.map (mEnc (fun n=>Value.int .i64 n) (fun x=>cB x) o0c0j1)],[⟨49,12,n0p,some (y0t0p.map Record.row)⟩,⟨49,12,v4pickedj1.length,none⟩,⟨49,12,v5othersl1.length,none⟩]⟩) (fun p=>iter (fun s=>g_correlate_pick_l1 v0parts v4pickedj1 o0c0j1 s.1 s.2) p.1 p.2=some r) (·.1) (n1,(([]:List Record),0)) H (.cons rfl (.rfl' _) (.cons rfl (.rfl' _) (.cons rfl (.rfl' _) (.cons rfl (.rfl' _) (.cons rfl (.rfl' _) (.cons rfl (.rfl' _) (.nil))))))) rfl ?_
  rintro ⟨m1,v5othersl1,v30l1⟩ HI ih1
  obtain ⟨n1,q1,hm1,H,HK1⟩:=iter_succ HI
  clear HI
  replace H:g_correlate_pick_l1 v0parts v4pickedj1 o0c0j1 v5othersl1 v30l1=some q1:=H
  unfold g_correlate_pick_l1 at H
  refine .A 5 [] rfl trivial ?_
  refine .ite H rfl (fun H=>?_) (fun H=>?_)
  ·obtain ⟨hk1,H⟩:=ck_some H
   obtain ⟨hk2,H⟩:=ck_some H
   refine .A 19 [.g (.vp 0 n0p (lo_v0parts+v30l1.toNat) 0),.f 12 (.d (.agg (Record.row (nth v0parts v30l1.toNat)))),.r 1,.b ((alook o0c0j1 v30l1).getD false)] rfl ⟨OpQ.g (q_lookupD (intKF underlying3) (l:=o0c0j1) (val:=(fun x=>cB x)) (k:=v30l1) (a0:=false) underlying149 hi4 hz4 (show DLe (cB false) (cB false) from .rfl' _) rfl rfl rfl (fun _ _ _ h=>exKey h)),OpQ.g (q_loadVpAW (l:=y0t0p) (a:=v0parts) (row:=Record.row) (lo:=lo_v0parts) (i:=v30l1.toNat) (cs:=(Record.row (nth v0parts v30l1.toNat))) hw_v0parts one_49 sz_49 rfl rfl hk2 (Nat.le_of_ble_eq_true rfl) rfl),OpQ.g (q_idxW (row:=Record.row) (l:=y0t0p) (i:=v30l1) underlying23 hi49 hs49 rfl rfl rfl hk1)⟩ ?_
   refine .ite H rfl (fun H=>?_) (fun H=>?_)
   ·obtain ⟨hk3,H⟩:=ck_some H
    obtain ⟨hk4,H⟩:=ck_some H
    refine .A 12 [.d (slOf 12 Record.row ([nth v0parts v30l1.toNat]:List Record)),.a 2 49 12 Record.row (v5othersl1++([nth v0parts v30l1.toNat]:List Record)),.i (v30l1+1)] rfl ⟨g_addI rfl rfl hk4,s23.a rfl rfl rfl rfl hk3,g_buildSlice1 underlying23 hi49 hs49 hz49 rfl rfl rfl rfl rfl⟩ ?_
    cases H
    exact .t 1 3 (ih1 (n1,(v5othersl1++([nth v0parts v30l1.toNat]:List Record),v30l1+1)) HK1 hm1) rfl rfl rfl rfl (okBoth rfl (okCons okMap rfl)) hS rfl
   ·obtain ⟨hk5,H⟩:=ck_some H
    refine .A 6 [.i (v30l1+1)] rfl (g_addI rfl rfl hk5) ?_
    cases H
    exact .t 1 3 (ih1 (n1,(v5othersl1,v30l1+1)) HK1 hm1) rfl rfl rfl rfl (okBoth rfl (okCons okMap rfl)) hS rfl
  ·refine .A 8 [] rfl trivial ?_
   refine .R func84 results84 rfl ?_
   cases H
   cases HK1
   exact ⟨[],[0],rfl,rfl,(by first | rfl | (simp only [List.map_cons,List.map_nil,renMap,renArr,mergeSt]; rfl)),(by first | rfl | (simp only [List.map_cons,List.map_nil,renMap,renArr,mergeSt]; rfl)),(by first | rfl | (simp only [List.map_cons,List.map_nil,renMap,renArr,mergeSt]; rfl)),(by first | rfl | (simp only [List.map_cons,List.map_nil,renMap,renArr,mergeSt]; rfl)),(by first | rfl | (simp only [List.map_cons,List.map_nil,renMap,renArr,mergeSt]; rfl)),(by first | rfl | (simp only [List.map_cons,List.map_nil,renMap,renArr,mergeSt]; rfl)),.tupL (ds:=[slOf 12 Record.row v4pickedj1,slOf 12 Record.row v5othersl1]) ⟨.tsl _ _ _,.tsl _ _ _,trivial⟩⟩
 ·intro hj1 hj1x
  obtain ⟨n2,H⟩:=loop_some H
  refine .loop (ι:=Nat×(List Record×Int×(List (Int×Bool)))) (fun ⟨_,v4pickedl2,v14l2,o0c0l2⟩=>[(0,.vw 0 n0p lo_v0parts v0parts.length),(4,.tsl 12 (v4pickedl2.map Record.row) 1),(5,.d (nilD)),(6,.mp 0),(12,.d (slOf 1 rI v1at)),(13,.d (cI (v1at.length:Int))),(14,.d (cI v14l2))]) (fun ⟨_,v4pickedl2,v14l2,o0c0l2⟩=>⟨[.map (mEnc (fun n=>Value.int .i64 n) (fun x=>cB x) o0c0l2)],[⟨49,12,n0p,some (y0t0p.map Record.row)⟩,⟨49,12,v4pickedl2.length,none⟩]⟩) (fun p=>iter (fun s=>g_correlate_pick_l2 v0parts v1at s.1 s.2.1 s.2.2) p.1 p.2=some r) (·.1) (n2,(([]:List Record),0,([]:List (Int×Bool)))) H (.cons rfl (.rfl' _) (.cons rfl (.rfl' _) (.cons rfl (.rfl' _) (.cons rfl (.rfl' _) (.cons rfl (.rfl' _) (.cons rfl (.rfl' _) (.cons rfl (.rfl' _) (.nil)))))))) rfl ?_
  rintro ⟨m1,v4pickedl2,v14l2,o0c0l2⟩ HI ih1
  obtain ⟨n1,q1,hm1,H,HK1⟩:=iter_succ HI
  clear HI
  replace H:g_correlate_pick_l2 v0parts v1at v4pickedl2 v14l2 o0c0l2=some q1:=H
  unfold g_correlate_pick_l2 at H
  refine .A 5 [] rfl trivial ?_
  refine .ite H rfl (fun H=>?_) (fun H=>?_)
  ·obtain ⟨hk6,H⟩:=ck_some H
   obtain ⟨hk7,H⟩:=ck_some H
   obtain ⟨hk8,H⟩:=ck_some H
   obtain ⟨hk9,H⟩:=ck_some H
   obtain ⟨hk10,H⟩:=ck_some H
   refine .A 30 [.d (.ro (rI (nth v1at v14l2.toNat))),.u ⟨[.map (mEnc (fun n=>Value.int .i64 n) (fun x=>cB x) (aset o0c0l2 (nth v1at v14l2.toNat) true))],[⟨49,12,n0p,some (y0t0p.map Record.row)⟩,⟨49,12,v4pickedl2.length,none⟩]⟩,.g (.vp 0 n0p (lo_v0parts+(nth v1at v14l2.toNat).toNat) 0),.f 10 (.d (.agg (Record.row (nth v0parts (nth v1at v14l2.toNat).toNat)))),.d (slOf 12 Record.row ([nth v0parts (nth v1at v14l2.toNat).toNat]:List Record)),.a 1 49 12 Record.row (v4pickedl2++([nth v0parts (nth v1at v14l2.toNat).toNat]:List Record)),.i (v14l2+1)] rfl ⟨g_addI rfl rfl hk10,s23.a rfl rfl rfl rfl hk9,g_buildSlice1 underlying23 hi49 hs49 hz49 rfl rfl rfl rfl rfl,OpQ.g (q_loadVpAW (l:=y0t0p) (a:=v0parts) (row:=Record.row) (lo:=lo_v0parts) (i:=(nth v1at v14l2.toNat).toNat) (cs:=(Record.row (nth v0parts (nth v1at v14l2.toNat).toNat))) hw_v0parts one_49 sz_49 rfl rfl hk8 (Nat.le_of_ble_eq_true rfl) rfl),OpQ.g (q_idxW (row:=Record.row) (l:=y0t0p) (i:=nth v1at v14l2.toNat) underlying23 hi49 hs49 rfl rfl rfl hk7),.e (u_mapUpdateD (intKF underlying3) (l:=o0c0l2) (val:=(fun x=>cB x)) (k:=nth v1at v14l2.toNat) (a:=true) underlying149 rfl rfl rfl (fun _ _ _ h=>exKey h) rfl (.rfl' _)) rfl,s69.ix rfl rfl rfl hk6⟩ ?_
   cases H
   exact .z (ih1 (n1,(v4pickedl2++([nth v0parts (nth v1at v14l2.toNat).toNat]:List Record),v14l2+1,aset o0c0l2 (nth v1at v14l2.toNat) true)) HK1 hm1) rfl rfl
  ·refine .A 1 [] rfl trivial ?_
   obtain ⟨q0,H9,hq0⟩:=map_some' H; clear H; cases hq0
   cases HK1
   have H:=H9
   exact .z (hj1x (v4pickedl2,o0c0l2) H) rfl rfl
theorem c_g_correlate_join_v1 {v2c:CorrelateCall} {y0t0p:List Record} {y1t0p:List Record} {n0p:Nat} {r:(List Record)×(List Record)} (H:g_correlate_join_v1 v2c y0t0p y1t0p=some r):ACallS prog 76 [.vc 0 n0p,.tsl 12 (y1t0p.map Record.row) 1,.d (.agg (CorrelateCall.row v2c))] ⟨[],[⟨49,12,n0p,some (y0t0p.map Record.row)⟩,⟨49,12,y1t0p.length,none⟩]⟩ (QE (.tup [.vc 2 r.1.length,.tsl 12 (r.2.map Record.row) 1]) ⟨[],[⟨49,12,([]:List Record).length,none⟩,⟨49,12,r.2.length,none⟩,⟨49,12,r.1.length,some (r.1.map Record.row)⟩]⟩):=by
 obtain ⟨i49,hi49,hz49,hs49,hb49⟩:=in_49
 refine ACallS.keep ?_
 refine ACallS.enter func76 rfl ntmps76 rfl fun S hS=>?_
 unfold g_correlate_join_v1 at H
 refine .A 7 [.r 0] rfl trivial ?_
 refine .move (i:=0) rfl rfl ?_
 obtain ⟨n1,H⟩:=loop_some H
 refine .normV (l:=y0t0p) (row:=Record.row) (tk:=2) (fun z=>[(0,.vc 2 z),(1,.tsl 12 (y1t0p.map Record.row) 1),(5,.ref 0 0)]) (fun z=>⟨[.row 114 [.d (cI v2c.source),.d (cI v2c.number)]],[⟨49,12,([]:List Record).length,none⟩,⟨49,12,y1t0p.length,none⟩,⟨49,12,z,some (y0t0p.map Record.row)⟩]⟩) rfl (.cons rfl (.rfl' _) (.cons rfl (.rfl' _) (.cons rfl (.rfl' _) (.nil)))) rfl ?_
 refine .loop (ι:=Nat×(List Record×List Record)) (fun ⟨_,y2tl1,v1outl1⟩=>[(0,.vc 2 y2tl1.length),(1,.tsl 12 (v1outl1.map Record.row) 1),(5,.ref 0 0)]) (fun ⟨_,y2tl1,v1outl1⟩=>⟨[.row 114 [.d (cI v2c.source),.d (cI v2c.number)]],[⟨49,12,([]:List Record).length,none⟩,⟨49,12,v1outl1.length,none⟩,⟨49,12,y2tl1.length,some (y2tl1.map Record.row)⟩]⟩) (fun p=>iter (fun s=>g_correlate_join_v1_l1 v2c s.1 s.2) p.1 p.2=some r) (·.1) (n1,(y0t0p,y1t0p)) H (.cons rfl (.rfl' _) (.cons rfl (.rfl' _) (.cons rfl (.rfl' _) (.nil)))) rfl ?_
 rintro ⟨m1,y2tl1,v1outl1⟩ HI ih1
 obtain ⟨n1,q1,hm1,H,HK1⟩:=iter_succ HI
 clear HI
 replace H:g_correlate_join_v1_l1 v2c y2tl1 v1outl1=some q1:=H
 unfold g_correlate_join_v1_l1 at H
 obtain ⟨y1,hy1,H⟩:=bind_some' H
 refine .B 5 [] rfl trivial ?_
 refine .callF (en 35 rfl) rfl [] [2] (x:=.d (.tup [cI y1.1,cI y1.2])) (st':=⟨[.row 114 [.d (cI v2c.source),.d (cI v2c.number)]],[⟨49,12,([]:List Record).length,none⟩,⟨49,12,v1outl1.length,none⟩,⟨49,12,y2tl1.length,some (y2tl1.map Record.row)⟩]⟩) rfl (c_g_correlate_span (hy1)) ⟨.rfl' _,.rfl' _,trivial⟩ rfl rfl rfl rfl rfl rfl ?_
 refine .A 7 [] rfl trivial ?_
 obtain ⟨hk1,H⟩:=ck_some H
 obtain ⟨hk2,H⟩:=ck_some H
 obtain ⟨y2,hy2,H⟩:=bind_some' H
 obtain ⟨y3,hy3,H⟩:=bind_some' H
 refine .orders2 14 8 9 [⟨[.row 114 [.d (cI v2c.source),.d (cI v2c.number)]],[⟨49,12,([]:List Record).length,none⟩,⟨49,12,v1outl1.length,none⟩,⟨49,12,y2tl1.length,some (y2tl1.map Record.row)⟩]⟩,⟨[.row 114 [.d (cI v2c.source),.d (cI v2c.number)]],[⟨49,12,([]:List Record).length,none⟩,⟨49,12,v1outl1.length,none⟩,⟨49,12,y2tl1.length,some (y2tl1.map Record.row)⟩]⟩,⟨[.row 114 [.d (cI v2c.source),.d (cI v2c.number)]],[⟨49,12,([]:List Record).length,none⟩,⟨49,12,v1outl1.length,none⟩,⟨49,12,y2tl1.length,some (y2tl1.map Record.row)⟩]⟩] hMix (by kernel_rfl) (by decide) (by decide) (by kernel_rfl) rfl ?_
 show XOps _ _ _ _ _ _ _ _ _ _ (_ :: _) _ _
 refine .g (x:=.vc 2 y2tl1.length) 0 1 ⟨OpQ.g (q_move rfl),OpQ.g (q_move rfl),trivial⟩ rfl (by kernel_rfl) rfl ?_
 refine .g (x:=.d (cI y1.1)) 0 1 ⟨OpQ.g (q_move rfl),OpQ.g (q_move rfl),trivial⟩ rfl (by kernel_rfl) rfl ?_
 refine .g (x:=.d (cI y1.2)) 0 1 ⟨OpQ.g (q_move rfl),OpQ.g (q_move rfl),trivial⟩ rfl (by kernel_rfl) rfl ?_
 refine .g (x:=.vw 2 y2tl1.length y1.1.toNat ((y2tl1.take y1.2.toNat).drop y1.1.toNat).length) 0 1 ⟨OpQ.g (q_slVW (l:=y2tl1) (row:=Record.row) (i:=y1.1) (j:=y1.2) underlying23 hi49 hs49 rfl rfl rfl rfl hk1),OpQ.g (q_slVW (l:=y2tl1) (row:=Record.row) (i:=y1.1) (j:=y1.2) underlying23 hi49 hs49 rfl rfl rfl rfl hk1),trivial⟩ rfl (by kernel_rfl) rfl ?_
 refine .g (x:=.vc 2 y2tl1.length) 0 0 ⟨OpQ.g (q_move rfl),trivial⟩ rfl (by kernel_rfl) rfl ?_
 refine .g (x:=.d (cI y1.1)) 0 0 ⟨OpQ.g (q_move rfl),trivial⟩ rfl (by kernel_rfl) rfl ?_
 refine .g (x:=.d (cI y1.2)) 0 0 ⟨OpQ.g (q_move rfl),trivial⟩ rfl (by kernel_rfl) rfl ?_
 refine .g (x:=.vw 2 y2tl1.length y1.1.toNat ((y2tl1.take y1.2.toNat).drop y1.1.toNat).length) 0 0 ⟨OpQ.g (q_slVW (l:=y2tl1) (row:=Record.row) (i:=y1.1) (j:=y1.2) underlying23 hi49 hs49 rfl rfl rfl rfl hk2),trivial⟩ rfl (by kernel_rfl) rfl ?_
 refine .c 0 (OpC.callF (en 36 rfl) [] [2] (x:=.d (slOf 1 rI y2)) (st':=⟨[.row 114 [.d (cI v2c.source),.d (cI v2c.number)]],[⟨49,12,([]:List Record).length,none⟩,⟨49,12,v1outl1.length,none⟩,⟨49,12,y2tl1.length,some (y2tl1.map Record.row)⟩]⟩) rfl (c_g_correlate_candidates (view_ok (by have h:=@H; omega)) (hy2)) ⟨.rfl' _,.rfl' _,trivial⟩ rfl rfl rfl rfl rfl rfl) rfl rfl rfl rfl ?_
 refine .c 1 (OpC.callF (en 37 rfl) [] [2] (x:=.d (.tup [slOf 12 Record.row y3.1,slOf 12 Record.row y3.2])) (st':=⟨[.row 114 [.d (cI v2c.source),.d (cI v2c.number)]],[⟨49,12,([]:List Record).length,none⟩,⟨49,12,v1outl1.length,none⟩,⟨49,12,y2tl1.length,some (y2tl1.map Record.row)⟩]⟩) rfl (c_g_correlate_pick (view_ok (by have h:=@H; omega)) (hy3)) ⟨.rfl' _,.rfl' _,trivial⟩ rfl rfl rfl rfl rfl rfl) rfl rfl rfl rfl ?_
 refine .g (x:=.d (.tup [slOf 12 Record.row y3.1,slOf 12 Record.row y3.2])) 2 2 ⟨OpQ.g (q_move rfl),trivial⟩ rfl (by kernel_rfl) rfl ?_
 refine .g (x:=.d (slOf 12 Record.row y3.1)) 2 2 ⟨OpQ.g (q_extract rfl rfl),trivial⟩ rfl (by kernel_rfl) rfl ?_
 refine .g (x:=.d (slOf 12 Record.row y3.2)) 2 2 ⟨OpQ.g (q_extract rfl rfl),trivial⟩ rfl (by kernel_rfl) rfl ?_
 refine .g (x:=.d (slOf 12 Record.row y3.1)) 2 2 ⟨OpQ.g (q_assign rfl),trivial⟩ rfl (by kernel_rfl) rfl ?_
 refine .nil rfl ?_
 show AOps _ _ _ _ _ _ (_ :: _) _ _ _
 obtain ⟨y4,hy4,H⟩:=bind_some' H
 refine .A 19 [.d (.tup [.agg (Record.row y4.1),cB y4.2]),.r 1] rfl (g_call (en 38 rfl) rfl rfl (c_f_correlate_Complete (hy4))) ?_
 refine .ite H rfl (fun H=>?_) (fun H=>?_)
 ·refine .A 7 [] rfl trivial ?_
  refine .R func76 results76 rfl ?_
  cases H
  cases HK1
  exact ⟨[],[0,1,2],rfl,rfl,rfl,rfl,rfl,rfl,rfl,rfl,.tupE ⟨.rfl' _,.rfl' _,trivial⟩⟩
 ·obtain ⟨y5,hy5,H⟩:=bind_some' H
  refine .B 7 [] rfl trivial ?_
  refine .callF (en 39 rfl) rfl [] [2] (x:=.vc 3 y5.length) (st':=⟨[.row 114 [.d (cI v2c.source),.d (cI v2c.number)],.row 49 [.d (cI y4.1.source),.d (cI y4.1.serial),.d (cI y4.1.kind),.d (cS y4.1.a),.d (cS y4.1.b),.d (cI y4.1.start),.d (cI y4.1.units),.d (cI y4.1.call),.d (cI y4.1.part),.d (cB y4.1.last),.d (cI y4.1.trunk),.d (cB y4.1.inbound)]],[⟨49,12,([]:List Record).length,none⟩,⟨49,12,v1outl1.length,none⟩,⟨49,12,([]:List Record).length,none⟩,⟨49,12,y5.length,some (y5.map Record.row)⟩]⟩) rfl (c_x_ReplaceRecord (hy5)) ⟨.rfl' _,.rfl' _,.rfl' _,.rfl' _,trivial⟩ rfl rfl rfl rfl rfl rfl ?_
  obtain ⟨hk3,H⟩:=ck_some H
  refine .A 10 [.d (slOf 12 Record.row ([y4.1]:List Record)),.a 1 49 12 Record.row (v1outl1++([y4.1]:List Record))] rfl ⟨s23.a rfl rfl rfl rfl hk3,g_buildSlice1 underlying23 hi49 hs49 hz49 rfl rfl rfl rfl rfl⟩ ?_
  cases H
  refine .reloc [0] [0,1,3] (env':=[(0,.vc 2 y5.length),(1,.tsl 12 ((v1outl1++([y4.1]:List Record)).map Record.row) 1),(5,.ref 0 0)]) (st':=⟨[.row 114 [.d (cI v2c.source),.d (cI v2c.number)]],[⟨49,12,([]:List Record).length,none⟩,⟨49,12,(v1outl1++([y4.1]:List Record)).length,none⟩,⟨49,12,y5.length,some (y5.map Record.row)⟩]⟩) hS rfl rfl rfl rfl rfl rfl rfl rfl (.cons rfl (.rfl' _) (.cons rfl (.rfl' _) (.cons rfl (.rfl' _) (.nil)))) ?_
  exact .z (ih1 (n1,(y5,v1outl1++([y4.1]:List Record))) HK1 hm1) rfl rfl
theorem c_f_correlate_Join {v0open:List Record} {v1list:List Record} {r:(List Record)×(List Record)} (H:f_correlate_Join v0open v1list=some r):ACall prog 42 [slOf 12 Record.row v0open,slOf 12 Record.row v1list] (·=.tup [slOf 12 Record.row r.1,slOf 12 Record.row r.2]):=by
 obtain ⟨i49,hi49,hz49,hs49,hb49⟩:=in_49
 refine ACall.enter' func42 rfl ntmps42 rfl fun S hS=>?_
 unfold f_correlate_Join at H
 obtain ⟨y1,hy1,H⟩:=bind_some' H
 refine .B 12 [] rfl trivial ?_
 refine .callF (en 13 rfl) rfl [] [] (x:=.vc 0 y1.length) (st':=⟨[],[⟨49,12,y1.length,some (y1.map Record.row)⟩]⟩) rfl (c_x_CloneRecordV (hy1)) ⟨.rfl' _,trivial⟩ rfl rfl rfl rfl rfl rfl ?_
 refine .A 10 [.i (v1list.length:Int)] rfl (s23.n rfl rfl) ?_
 refine .tok (i:=6) (e:=49) (sz:=12) rfl ?_
 obtain ⟨n1,H⟩:=loop_some H
 refine .loop (ι:=Nat×(List Record×List Record×Int)) (fun ⟨_,y0tl1,v6outl1,v15l1⟩=>[(6,.tsl 12 (v6outl1.map Record.row) 1),(7,.vc 0 y0tl1.length),(13,.d (slOf 12 Record.row v1list)),(14,.d (cI (v1list.length:Int))),(15,.d (cI v15l1))]) (fun ⟨_,y0tl1,v6outl1,v15l1⟩=>⟨[],[⟨49,12,y0tl1.length,some (y0tl1.map Record.row)⟩,⟨49,12,v6outl1.length,none⟩]⟩) (fun p=>iter (fun s=>f_correlate_Join_l1 v1list s.1 s.2.1 s.2.2) p.1 p.2=some r) (·.1) (n1,(y1,([]:List Record),0)) H (.cons rfl (.rfl' _) (.cons rfl (.rfl' _) (.cons rfl (.rfl' _) (.cons rfl (.rfl' _) (.cons rfl (.rfl' _) (.nil)))))) rfl ?_
 rintro ⟨m1,y0tl1,v6outl1,v15l1⟩ HI ih1
 obtain ⟨n1,q1,hm1,H,HK1⟩:=iter_succ HI
 clear HI
 replace H:f_correlate_Join_l1 v1list y0tl1 v6outl1 v15l1=some q1:=H
 unfold f_correlate_Join_l1 at H
 refine .A 5 [] rfl trivial ?_
 refine .ite H rfl (fun H=>?_) (fun H=>?_)
 ·obtain ⟨hk1,H⟩:=ck_some H
  refine .A 17 [.d (.ro (Record.row (nth v1list v15l1.toNat))),.r 0] rfl (s23.ix rfl rfl rfl hk1) ?_
  refine .ite H rfl (fun H=>?_) (fun H=>?_)
  ·obtain ⟨hk2,H⟩:=ck_some H
   obtain ⟨hk3,H⟩:=ck_some H
   refine .A 13 [.d (slOf 12 Record.row ([nth v1list v15l1.toNat]:List Record)),.a 1 49 12 Record.row (v6outl1++([nth v1list v15l1.toNat]:List Record)),.i (v15l1+1)] rfl ⟨g_addI rfl rfl hk3,s23.a rfl rfl rfl rfl hk2,g_buildSlice1 underlying23 hi49 hs49 hz49 rfl rfl rfl rfl rfl⟩ ?_
   cases H
   exact .t 0 2 (ih1 (n1,(y0tl1,v6outl1++([nth v1list v15l1.toNat]:List Record),v15l1+1)) HK1 hm1) rfl rfl rfl rfl rfl hS rfl
  ·refine .A 6 [] rfl trivial ?_
   refine .blockJoin2 (ι:=Int) (fun v10atj1=>[(6,.tsl 12 (v6outl1.map Record.row) 1),(7,.vc 0 y0tl1.length),(9,.ref 0 0),(10,.d (cI v10atj1)),(13,.d (slOf 12 Record.row v1list)),(14,.d (cI (v1list.length:Int))),(15,.d (cI v15l1))]) (fun v10atj1=>⟨[.row 49 [.d (cI ((nth v1list v15l1.toNat).source)),.d (cI ((nth v1list v15l1.toNat).serial)),.d (cI ((nth v1list v15l1.toNat).kind)),.d (cS ((nth v1list v15l1.toNat).a)),.d (cS ((nth v1list v15l1.toNat).b)),.d (cI ((nth v1list v15l1.toNat).start)),.d (cI ((nth v1list v15l1.toNat).units)),.d (cI ((nth v1list v15l1.toNat).call)),.d (cI ((nth v1list v15l1.toNat).part)),.d (cB ((nth v1list v15l1.toNat).last)),.d (cI ((nth v1list v15l1.toNat).trunk)),.d (cB ((nth v1list v15l1.toNat).inbound))]],[⟨49,12,y0tl1.length,some (y0tl1.map Record.row)⟩,⟨49,12,v6outl1.length,none⟩]⟩) (fun s=>f_correlate_Join_j1 v1list y0tl1 v6outl1 v15l1 s=some q1) ?_ ?_
   ·rintro v10atj1 H
    replace H:f_correlate_Join_j1 v1list y0tl1 v6outl1 v15l1 v10atj1=some q1:=H
    unfold f_correlate_Join_j1 at H
    obtain ⟨y2,hy2,H⟩:=bind_some' H
    refine .B 6 [.n (.vc 2 (([nth v1list v15l1.toNat]:List Record).length)) ⟨49,12,(([nth v1list v15l1.toNat]:List Record).length),some (([nth v1list v15l1.toNat]:List Record).map Record.row)⟩] rfl (.e (v_buildSliceV (n:=1) (l0:=([nth v1list v15l1.toNat]:List Record)) (row:=Record.row) underlying23 hi49 hs49 hz49 rfl rfl rfl rfl rfl) rfl) ?_
    refine .callF (en 40 rfl) rfl [] [0,2] (x:=.vc 3 y2.length) (st':=⟨[.row 49 [.d (cI ((nth v1list v15l1.toNat).source)),.d (cI ((nth v1list v15l1.toNat).serial)),.d (cI ((nth v1list v15l1.toNat).kind)),.d (cS ((nth v1list v15l1.toNat).a)),.d (cS ((nth v1list v15l1.toNat).b)),.d (cI ((nth v1list v15l1.toNat).start)),.d (cI ((nth v1list v15l1.toNat).units)),.d (cI ((nth v1list v15l1.toNat).call)),.d (cI ((nth v1list v15l1.toNat).part)),.d (cB ((nth v1list v15l1.toNat).last)),.d (cI ((nth v1list v15l1.toNat).trunk)),.d (cB ((nth v1list v15l1.toNat).inbound))]],[⟨49,12,([]:List Record).length,none⟩,⟨49,12,v6outl1.length,none⟩,⟨49,12,(([nth v1list v15l1.toNat]:List Record).length),some (([nth v1list v15l1.toNat]:List Record).map Record.row)⟩,⟨49,12,y2.length,some (y2.map Record.row)⟩]⟩) rfl (c_x_InsertRecord (hy2)) ⟨.rfl' _,.rfl' _,.rfl' _,trivial⟩ rfl rfl rfl rfl rfl rfl ?_
    obtain ⟨y3,hy3,H⟩:=bind_some' H
    obtain ⟨y4,hy4,H⟩:=bind_some' H
    refine .B 7 [.d (.agg (CorrelateCall.row y3))] rfl (g_call (en 28 rfl) rfl rfl (c_f_correlate_callOf (hy3))) ?_
    refine .callF (en 41 rfl) rfl [] [3,1] (x:=.tup [.vc 4 y4.1.length,.tsl 12 (y4.2.map Record.row) 1]) (st':=⟨[.row 49 [.d (cI ((nth v1list v15l1.toNat).source)),.d (cI ((nth v1list v15l1.toNat).serial)),.d (cI ((nth v1list v15l1.toNat).kind)),.d (cS ((nth v1list v15l1.toNat).a)),.d (cS ((nth v1list v15l1.toNat).b)),.d (cI ((nth v1list v15l1.toNat).start)),.d (cI ((nth v1list v15l1.toNat).units)),.d (cI ((nth v1list v15l1.toNat).call)),.d (cI ((nth v1list v15l1.toNat).part)),.d (cB ((nth v1list v15l1.toNat).last)),.d (cI ((nth v1list v15l1.toNat).trunk)),.d (cB ((nth v1list v15l1.toNat).inbound))]],[⟨49,12,([]:List Record).length,none⟩,⟨49,12,y4.2.length,none⟩,⟨49,12,(([nth v1list v15l1.toNat]:List Record).length),some (([nth v1list v15l1.toNat]:List Record).map Record.row)⟩,⟨49,12,([]:List Record).length,none⟩,⟨49,12,y4.1.length,some (y4.1.map Record.row)⟩]⟩) rfl (c_g_correlate_join_v1 (hy4)) ⟨.rfl' _,.rfl' _,.rfl' _,trivial⟩ rfl rfl rfl rfl rfl rfl ?_
    obtain ⟨hk4,H⟩:=ck_some H
    refine .A 11 [.i (v15l1+1)] rfl (g_addI rfl rfl hk4) ?_
    cases H
    refine .reloc [] [4,1] (env':=[(6,.tsl 12 (y4.2.map Record.row) 1),(7,.vc 0 y4.1.length),(13,.d (slOf 12 Record.row v1list)),(14,.d (cI (v1list.length:Int))),(15,.d (cI (v15l1+1)))]) (st':=⟨[],[⟨49,12,y4.1.length,some (y4.1.map Record.row)⟩,⟨49,12,y4.2.length,none⟩]⟩) hS rfl rfl rfl rfl rfl rfl rfl rfl (.cons rfl (.rfl' _) (.cons rfl (.rfl' _) (.cons rfl (.rfl' _) (.cons rfl (.rfl' _) (.cons rfl (.rfl' _) (.nil)))))) ?_
    exact .z (ih1 (n1,(y4.1,y4.2,v15l1+1)) HK1 hm1) rfl rfl
   ·intro hj1 hj1x
    obtain ⟨n2,H⟩:=loop_some H
    refine .loop (ι:=Nat×(Int)) (fun ⟨_,v10atl2⟩=>[(6,.tsl 12 (v6outl1.map Record.row) 1),(7,.vc 0 y0tl1.length),(9,.ref 0 0),(10,.d (cI v10atl2)),(13,.d (slOf 12 Record.row v1list)),(14,.d (cI (v1list.length:Int))),(15,.d (cI v15l1))]) (fun ⟨_,v10atl2⟩=>⟨[.row 49 [.d (cI ((nth v1list v15l1.toNat).source)),.d (cI ((nth v1list v15l1.toNat).serial)),.d (cI ((nth v1list v15l1.toNat).kind)),.d (cS ((nth v1list v15l1.toNat).a)),.d (cS ((nth v1list v15l1.toNat).b)),.d (cI ((nth v1list v15l1.toNat).start)),.d (cI ((nth v1list v15l1.toNat).units)),.d (cI ((nth v1list v15l1.toNat).call)),.d (cI ((nth v1list v15l1.toNat).part)),.d (cB ((nth v1list v15l1.toNat).last)),.d (cI ((nth v1list v15l1.toNat).trunk)),.d (cB ((nth v1list v15l1.toNat).inbound))]],[⟨49,12,y0tl1.length,some (y0tl1.map Record.row)⟩,⟨49,12,v6outl1.length,none⟩]⟩) (fun p=>iter (fun s=>f_correlate_Join_l2 v1list y0tl1 v6outl1 v15l1 s) p.1 p.2=some q1) (·.1) (n2,0) H (.cons rfl (.rfl' _) (.cons rfl (.rfl' _) (.cons rfl (.rfl' _) (.cons rfl (.rfl' _) (.cons rfl (.rfl' _) (.cons rfl (.rfl' _) (.cons rfl (.rfl' _) (.nil)))))))) rfl ?_
    rintro ⟨m2,v10atl2⟩ HI ih2
    obtain ⟨n2,q2,hm2,H,HK2⟩:=iter_succ HI
    clear HI
    replace H:f_correlate_Join_l2 v1list y0tl1 v6outl1 v15l1 v10atl2=some q2:=H
    unfold f_correlate_Join_l2 at H
    obtain ⟨hk5,H⟩:=ck_some H
    obtain ⟨hk6,H⟩:=ck_some H
    obtain ⟨y5,hy5,H⟩:=bind_some' H
    refine .A 18 [.p 13,.i (y0tl1.length:Int),.g (.vp 0 y0tl1.length v10atl2.toNat 0),.f 7 (.d (.agg (Record.row (nth y0tl1 v10atl2.toNat)))),.i y5] rfl ⟨rfl,rfl,fun hg=>g_call (en 42 rfl) rfl rfl (c_f_correlate_before (gcall_some hy5 hg)),rfl,rfl,fun hg=>OpQ.g (q_loadVpA (l:=y0tl1) (row:=Record.row) (cs:=(Record.row (nth y0tl1 v10atl2.toNat))) one_49 sz_49 rfl rfl (hk6 hg) (Nat.le_of_ble_eq_true rfl) rfl),rfl,fun hg=>OpQ.g (q_idxV (l:=y0tl1) (row:=Record.row) (i:=v10atl2) underlying23 hi49 hs49 rfl rfl rfl (hk5 hg)),rfl,rfl,OpQ.g (q_lenV (l:=y0tl1) (row:=Record.row) underlying23 rfl rfl),(show drawB _ _=true by kernel_rfl)⟩ ?_
    refine .ite H rfl (fun H=>?_) (fun H=>?_)
    ·obtain ⟨hk7,H⟩:=ck_some H
     refine .A 8 [.i (v10atl2+1)] rfl (g_addI rfl rfl hk7) ?_
     cases H
     exact .z (ih2 (n2,(v10atl2+1)) HK2 hm2) rfl rfl
    ·refine .A 1 [] rfl trivial ?_
     obtain ⟨q0,H9,hq0⟩:=map_some' H; clear H; cases hq0
     cases HK2
     have H:=H9
     exact .z (hj1x v10atl2 H) rfl rfl
 ·refine .A 8 [] rfl trivial ?_
  refine .freezeL (l:=y0tl1) (row:=Record.row) (i:=5) rfl rfl ?_
  refine .R func42 results42 rfl ?_
  cases H
  cases HK1
  exact .m rfl (.tupL ⟨.tsl _ _ _,.tsl _ _ _,trivial⟩)
theorem c_g_intake_timely {v0records:List Record} {v1w:Window} {r:(List Int)×(List Reject)} (H:g_intake_timely v0records v1w=some r):ACallS prog 36 [.d (slOf 12 Record.row v0records),.d (.agg (Window.row v1w))] ⟨[],[]⟩ (QE (.tup [.d (slOf 1 rI r.1),.vc 0 r.2.length]) ⟨[],[⟨47,4,r.2.length,some (r.2.map Reject.row)⟩]⟩):=by
 obtain ⟨i3,hi3,hz3,hs3,hb3⟩:=in_3
 obtain ⟨i47,hi47,hz47,hs47,hb47⟩:=in_47
 refine ACallS.keep ?_
 refine ACallS.enter func36 rfl ntmps36 rfl fun S hS=>?_
 unfold g_intake_timely at H
 refine .A 22 [.r 0,.i (v0records.length:Int)] rfl (s23.n rfl rfl) ?_
 refine .tok (i:=6) (e:=3) (sz:=1) rfl ?_
 refine .tokV (i:=7) (e:=47) (sz:=4) rfl ?_
 obtain ⟨n1,H⟩:=loop_some H
 refine .normV (l:=([]:List Reject)) (row:=Reject.row) (tk:=1) (fun z=>[(3,.ref 0 0),(6,.tsl 1 (([]:List Int).map rI) 0),(7,.vc 1 z),(11,.d (slOf 12 Record.row v0records)),(12,.d (cI (v0records.length:Int))),(13,.d (cI 0))]) (fun z=>⟨[.row 36 [.d (cI v1w.earliest),.d (cI v1w.latest)]],[⟨3,1,([]:List Int).length,none⟩,⟨47,4,z,some (([]:List Reject).map Reject.row)⟩]⟩) rfl (.cons rfl (.rfl' _) (.cons rfl (.rfl' _) (.cons rfl (.rfl' _) (.cons rfl (.rfl' _) (.cons rfl (.rfl' _) (.cons rfl (.rfl' _) (.nil))))))) rfl ?_
 refine .loop (ι:=Nat×(List Reject×List Int×Int)) (fun ⟨_,y1tl1,v6atl1,v13l1⟩=>[(3,.ref 0 0),(6,.tsl 1 (v6atl1.map rI) 0),(7,.vc 1 y1tl1.length),(11,.d (slOf 12 Record.row v0records)),(12,.d (cI (v0records.length:Int))),(13,.d (cI v13l1))]) (fun ⟨_,y1tl1,v6atl1,v13l1⟩=>⟨[.row 36 [.d (cI v1w.earliest),.d (cI v1w.latest)]],[⟨3,1,v6atl1.length,none⟩,⟨47,4,y1tl1.length,some (y1tl1.map Reject.row)⟩]⟩) (fun p=>iter (fun s=>g_intake_timely_l1 v0records v1w s.1 s.2.1 s.2.2) p.1 p.2=some r) (·.1) (n1,(([]:List Reject),([]:List Int),0)) H (.cons rfl (.rfl' _) (.cons rfl (.rfl' _) (.cons rfl (.rfl' _) (.cons rfl (.rfl' _) (.cons rfl (.rfl' _) (.cons rfl (.rfl' _) (.nil))))))) rfl ?_
 rintro ⟨m1,y1tl1,v6atl1,v13l1⟩ HI ih1
 obtain ⟨n1,q1,hm1,H,HK1⟩:=iter_succ HI
 clear HI
 replace H:g_intake_timely_l1 v0records v1w y1tl1 v6atl1 v13l1=some q1:=H
 unfold g_intake_timely_l1 at H
 refine .A 5 [] rfl trivial ?_
 refine .ite H rfl (fun H=>?_) (fun H=>?_)
 ·obtain ⟨hk1,H⟩:=ck_some H
  obtain ⟨y1,hy1,H⟩:=bind_some' H
  refine .A 25 [.d (.ro (Record.row (nth v0records v13l1.toNat))),.r 1,.i y1] rfl ⟨g_call (en 11 rfl) rfl rfl (c_f_validate_Window (hy1)),s23.ix rfl rfl rfl hk1⟩ ?_
  refine .ite H rfl (fun H=>?_) (fun H=>?_)
  ·obtain ⟨hk2,H⟩:=ck_some H
   obtain ⟨hk3,H⟩:=ck_some H
   refine .A 19 [.d (.agg (Reject.row (⟨(nth v0records v13l1.toNat).source,(nth v0records v13l1.toNat).serial,v13l1,y1⟩:Reject))),.d (slOf 4 Reject.row ([(⟨(nth v0records v13l1.toNat).source,(nth v0records v13l1.toNat).serial,v13l1,y1⟩:Reject)]:List Reject)),.t (.vc 1 ((y1tl1++([(⟨(nth v0records v13l1.toNat).source,(nth v0records v13l1.toNat).serial,v13l1,y1⟩:Reject)]:List Reject)).length)) 1 ⟨47,4,((y1tl1++([(⟨(nth v0records v13l1.toNat).source,(nth v0records v13l1.toNat).serial,v13l1,y1⟩:Reject)]:List Reject)).length),some ((y1tl1++([(⟨(nth v0records v13l1.toNat).source,(nth v0records v13l1.toNat).serial,v13l1,y1⟩:Reject)]:List Reject)).map Reject.row)⟩,.i (v13l1+1)] rfl ⟨g_addI rfl rfl hk3,.e (v_appendV (l:=y1tl1) (l':=([(⟨(nth v0records v13l1.toNat).source,(nth v0records v13l1.toNat).serial,v13l1,y1⟩:Reject)]:List Reject)) (row:=Reject.row) underlying38 hi47 hz47 hs47 rfl (by rw [hb47]; decide) rfl rfl rfl rfl hk2) rfl,g_buildSlice1 underlying38 hi47 hs47 hz47 rfl rfl rfl rfl rfl,OpQ.g (q_buildP pl_47 hi47 hz47 rfl rfl)⟩ ?_
   cases H
   exact .t 1 2 (ih1 (n1,(y1tl1++([(⟨(nth v0records v13l1.toNat).source,(nth v0records v13l1.toNat).serial,v13l1,y1⟩:Reject)]:List Reject),v6atl1,v13l1+1)) HK1 hm1) rfl rfl rfl rfl rfl hS rfl
  ·obtain ⟨hk4,H⟩:=ck_some H
   obtain ⟨hk5,H⟩:=ck_some H
   refine .A 13 [.d (slOf 1 rI ([v13l1]:List Int)),.a 0 3 1 rI (v6atl1++([v13l1]:List Int)),.i (v13l1+1)] rfl ⟨g_addI rfl rfl hk5,s69.a rfl rfl rfl rfl hk4,g_buildSlice1 underlying69 hi3 hs3 hz3 rfl rfl rfl rfl rfl⟩ ?_
   cases H
   exact .t 1 2 (ih1 (n1,(y1tl1,v6atl1++([v13l1]:List Int),v13l1+1)) HK1 hm1) rfl rfl rfl rfl rfl hS rfl
 ·refine .A 8 [] rfl trivial ?_
  refine .R func36 results36 rfl ?_
  cases H
  cases HK1
  exact ⟨[],[1],rfl,rfl,rfl,rfl,rfl,rfl,rfl,rfl,.tupE ⟨.tsl _ _ _,.rfl' _,trivial⟩⟩
theorem c_g_intake_copied {v0in:Intake} {r:(List Range)×(List Record)×(List Head)} (H:g_intake_copied v0in=some r):ACallS prog 37 [.d (.agg (Intake.row v0in))] ⟨[],[]⟩ (QE (.agg [.d (slOf 3 Range.row r.1),.d (slOf 12 Record.row r.2.1),.tsl 4 (r.2.2.map Head.row) 0]) ⟨[],[⟨30,4,r.2.2.length,none⟩]⟩):=by
 obtain ⟨i26,hi26,hz26,hs26,hb26⟩:=in_26
 refine ACallS.keep ?_
 refine ACallS.enter func37 rfl ntmps37 rfl fun S hS=>?_
 unfold g_intake_copied at H
 obtain ⟨y1,hy1,H⟩:=bind_some' H
 obtain ⟨y2,hy2,H⟩:=bind_some' H
 obtain ⟨y3,hy3,H⟩:=bind_some' H
 refine .B 16 [.r 0,.r 1,.p 8,.d (slOf 3 Range.row y1),.d (slOf 12 Record.row y2)] rfl ⟨g_call (en 13 rfl) rfl rfl (c_x_CloneRecord (hy2)),g_call (en 14 rfl) rfl rfl (c_x_CloneRange (hy1)),(show drawB _ _=true by kernel_rfl)⟩ ?_
 refine .callF (en 12 rfl) rfl [] [] (x:=.vc 0 y3.length) (st':=⟨[.row 26 [.d (slOf 3 Range.row v0in.seen),.d (slOf 12 Record.row v0in.open_),.d (slOf 4 Head.row v0in.heads)],.row 26 [.d (nilD),.d (nilD),.d (nilD)]],[⟨30,4,y3.length,some (y3.map Head.row)⟩]⟩) rfl (c_x_CloneHeadV (hy3)) ⟨.rfl' _,trivial⟩ rfl rfl rfl rfl rfl rfl ?_
 refine .freezeL (l:=y3) (row:=Head.row) (i:=11) rfl rfl ?_
 refine .A 3 [.g (.agg [.d (slOf 3 Range.row y1),.d (slOf 12 Record.row y2),.tsl 4 (y3.map Head.row) 0])] rfl (OpQ.g (q_buildE pl_26 hi26 hz26 rfl rfl)) ?_
 refine .retN [.cell 2 26] [.agg [.d (slOf 3 Range.row y1),.d (slOf 12 Record.row y2),.tsl 4 (y3.map Head.row) 0]] func37 results37 ⟨⟨⟨_,_,rfl⟩,q_loadOE one_26 sz_26 rfl rfl (Nat.le_of_ble_eq_true rfl) rfl⟩,trivial⟩ ?_
 cases H
 exact ⟨[],[0],rfl,rfl,rfl,rfl,rfl,rfl,rfl,rfl,.aggE ⟨.rfl' _,.rfl' _,.rfl' _,trivial⟩⟩
theorem c_f_intake_Accept {v0:Intake} {v1:Batch} {v2:Window} {r:Intake×(List Record)×(List Reject)×Int} (H:f_intake_Accept v0 v1 v2=some r):ACall prog 16 [.agg (Intake.row v0),.agg (Batch.row v1),.agg (Window.row v2)] (·=.tup [.agg (Intake.row r.1),slOf 12 Record.row r.2.1,slOf 4 Reject.row r.2.2.1,cI r.2.2.2]):=by
 obtain ⟨i26,hi26,hz26,hs26,hb26⟩:=in_26
 obtain ⟨i30,hi30,hz30,hs30,hb30⟩:=in_30
 obtain ⟨i47,hi47,hz47,hs47,hb47⟩:=in_47
 obtain ⟨i49,hi49,hz49,hs49,hb49⟩:=in_49
 refine ACall.enter' func16 rfl ntmps16 rfl fun S hS=>?_
 unfold f_intake_Accept at H
 obtain ⟨y1,hy1,H⟩:=bind_some' H
 refine .A 22 [.r 0,.r 1,.r 2,.r 3,.i y1] rfl (g_call (en 43 rfl) rfl rfl (c_f_batch_Check (hy1))) ?_
 refine .ite H rfl (fun H=>?_) (fun H=>?_)
 ·refine .A 9 [.d (.agg (Intake.row (⟨([]:List Range),([]:List Record),([]:List Head)⟩:Intake)))] rfl (OpQ.g (OpQ.le (q_buildP pl_26 hi26 hz26 rfl rfl) (EVle.d (.agg ⟨.nil 3,.nil 12,.nil 4,trivial⟩)))) ?_
  refine .R func16 results16 rfl ?_
  cases H
  exact .m rfl (.tupL ⟨.rfl' _,.nil 12,.nil 4,.rfl' _,trivial⟩)
 ·obtain ⟨y2,hy2,H⟩:=bind_some' H
  refine .A 13 [.p 7,.i y2] rfl ⟨g_call (en 44 rfl) rfl rfl (c_f_intake_Next (hy2)),(show drawB _ _=true by kernel_rfl)⟩ ?_
  refine .ite H rfl (fun H=>?_) (fun H=>?_)
  ·refine .A 8 [.d (.agg (Intake.row (⟨([]:List Range),([]:List Record),([]:List Head)⟩:Intake)))] rfl (OpQ.g (OpQ.le (q_buildP pl_26 hi26 hz26 rfl rfl) (EVle.d (.agg ⟨.nil 3,.nil 12,.nil 4,trivial⟩)))) ?_
   refine .R func16 results16 rfl ?_
   cases H
   exact .m rfl (.tupL ⟨.rfl' _,.nil 12,.nil 4,.rfl' _,trivial⟩)
  ·obtain ⟨y3,hy3,H⟩:=bind_some' H
   refine .B 6 [] rfl trivial ?_
   refine .callF (en 45 rfl) rfl [] [] (x:=.tup [.d (slOf 1 rI y3.1),.vc 0 y3.2.length]) (st':=⟨[.row 26 [.d (slOf 3 Range.row v0.seen),.d (slOf 12 Record.row v0.open_),.d (slOf 4 Head.row v0.heads)],.row 34 [.d (cI v1.source),.d (cI v1.number),.d (cI v1.format),.d (slOf 12 Record.row v1.records)],.row 36 [.d (cI v2.earliest),.d (cI v2.latest)],.row 26 [.d (nilD),.d (nilD),.d (nilD)]],[⟨47,4,y3.2.length,some (y3.2.map Reject.row)⟩]⟩) rfl (c_g_intake_timely (hy3)) ⟨.rfl' _,.rfl' _,trivial⟩ rfl rfl rfl rfl rfl rfl ?_
   refine .A 17 [.i (y3.1.length:Int)] rfl (s69.n rfl rfl) ?_
   refine .tok (i:=13) (e:=49) (sz:=12) rfl ?_
   refine .blockJoin2 (ι:=List Record) (fun v13j1=>[(3,.ref 0 0),(4,.ref 1 0),(6,.ref 3 0),(11,.d (slOf 1 rI y3.1)),(12,.vc 0 y3.2.length),(13,.tsl 12 (v13j1.map Record.row) 1)]) (fun v13j1=>⟨[.row 26 [.d (slOf 3 Range.row v0.seen),.d (slOf 12 Record.row v0.open_),.d (slOf 4 Head.row v0.heads)],.row 34 [.d (cI v1.source),.d (cI v1.number),.d (cI v1.format),.d (slOf 12 Record.row v1.records)],.row 36 [.d (cI v2.earliest),.d (cI v2.latest)],.row 26 [.d (nilD),.d (nilD),.d (nilD)]],[⟨47,4,y3.2.length,some (y3.2.map Reject.row)⟩,⟨49,12,v13j1.length,none⟩]⟩) (fun s=>f_intake_Accept_j1 v0 v1 y3 s=some r) ?_ ?_
   ·rintro v13j1 H
    replace H:f_intake_Accept_j1 v0 v1 y3 v13j1=some r:=H
    unfold f_intake_Accept_j1 at H
    obtain ⟨y4,hy4,H⟩:=bind_some' H
    refine .B 3 [] rfl trivial ?_
    refine .callF (en 46 rfl) rfl [] [] (x:=.agg [.d (slOf 3 Range.row y4.1),.d (slOf 12 Record.row y4.2.1),.tsl 4 (y4.2.2.map Head.row) 2]) (st':=⟨[.row 26 [.d (slOf 3 Range.row v0.seen),.d (slOf 12 Record.row v0.open_),.d (slOf 4 Head.row v0.heads)],.row 34 [.d (cI v1.source),.d (cI v1.number),.d (cI v1.format),.d (slOf 12 Record.row v1.records)],.row 36 [.d (cI v2.earliest),.d (cI v2.latest)],.row 26 [.d (nilD),.d (nilD),.d (nilD)]],[⟨47,4,y3.2.length,some (y3.2.map Reject.row)⟩,⟨49,12,v13j1.length,none⟩,⟨30,4,y4.2.2.length,none⟩]⟩) rfl (c_g_intake_copied (hy4)) ⟨.rfl' _,trivial⟩ rfl rfl rfl rfl rfl rfl ?_
    obtain ⟨y5,hy5,H⟩:=bind_some' H
    refine .A 24 [.r 4,.d (.tup [slOf 3 Range.row y5.1,slOf 12 Record.row y5.2.1,slOf 4 Reject.row y5.2.2]),.i (y5.2.2.length:Int)] rfl ⟨s38.n rfl rfl,g_call (en 47 rfl) rfl rfl (c_f_dedup_Filter (hy5))⟩ ?_
    refine .blockJoin2 (ι:=List Reject) (fun y0tj2=>[(4,.ref 1 0),(6,.ref 3 0),(12,.vc 0 y0tj2.length),(16,.ref 4 0),(17,.d (slOf 3 Range.row y5.1)),(18,.d (slOf 12 Record.row y5.2.1))]) (fun y0tj2=>⟨[.row 26 [.d (slOf 3 Range.row v0.seen),.d (slOf 12 Record.row v0.open_),.d (slOf 4 Head.row v0.heads)],.row 34 [.d (cI v1.source),.d (cI v1.number),.d (cI v1.format),.d (slOf 12 Record.row v1.records)],.row 36 [.d (cI v2.earliest),.d (cI v2.latest)],.row 26 [.d (nilD),.d (nilD),.d (nilD)],.row 26 [.d (slOf 3 Range.row y4.1),.d (slOf 12 Record.row y4.2.1),.tsl 4 (y4.2.2.map Head.row) 2]],[⟨47,4,y0tj2.length,some (y0tj2.map Reject.row)⟩,⟨49,12,v13j1.length,none⟩,⟨30,4,y4.2.2.length,none⟩]⟩) (fun s=>f_intake_Accept_j2 v1 y4 y5 s=some r) ?_ ?_
    ·rintro y0tj2 H
     replace H:f_intake_Accept_j2 v1 y4 y5 y0tj2=some r:=H
     unfold f_intake_Accept_j2 at H
     obtain ⟨y6,hy6,H⟩:=bind_some' H
     refine .B 3 [] rfl trivial ?_
     refine .callF (en 48 rfl) rfl [] [0] (x:=.d (.tup [])) (st':=⟨[.row 26 [.d (slOf 3 Range.row v0.seen),.d (slOf 12 Record.row v0.open_),.d (slOf 4 Head.row v0.heads)],.row 34 [.d (cI v1.source),.d (cI v1.number),.d (cI v1.format),.d (slOf 12 Record.row v1.records)],.row 36 [.d (cI v2.earliest),.d (cI v2.latest)],.row 26 [.d (nilD),.d (nilD),.d (nilD)],.row 26 [.d (slOf 3 Range.row y4.1),.d (slOf 12 Record.row y4.2.1),.tsl 4 (y4.2.2.map Head.row) 2]],[⟨47,4,y0tj2.length,some (y6.map Reject.row)⟩,⟨49,12,v13j1.length,none⟩,⟨30,4,y4.2.2.length,none⟩]⟩) rfl (c_x_SortReject (hy6)) ⟨.rfl' _,.rfl' _,trivial⟩ rfl rfl rfl rfl rfl rfl ?_
     obtain ⟨y7,hy7,H⟩:=bind_some' H
     obtain ⟨hk1,H⟩:=ck_some H
     refine .B 43 [.d (.tup [slOf 12 Record.row y7.1,slOf 12 Record.row y7.2]),.i (v1.records.length:Int),.d (.agg (Head.row (⟨v1.source,v1.number,v1.format,(v1.records.length:Int)⟩:Head))),.d (slOf 4 Head.row ([(⟨v1.source,v1.number,v1.format,(v1.records.length:Int)⟩:Head)]:List Head)),.a 2 30 4 Head.row (y4.2.2++([(⟨v1.source,v1.number,v1.format,(v1.records.length:Int)⟩:Head)]:List Head))] rfl ⟨s24.a rfl rfl rfl rfl hk1,g_buildSlice1 underlying24 hi30 hs30 hz30 rfl rfl rfl rfl rfl,OpQ.g (q_buildP pl_30 hi30 hz30 rfl rfl),s23.n rfl rfl,g_call (en 49 rfl) rfl rfl (c_f_correlate_Join (hy7))⟩ ?_
     refine .cellLe 4 2 rfl rfl (.tsl _ _ _) ?_
     refine .A 8 [] rfl trivial ?_
     refine .freezeL (l:=y6) (row:=Reject.row) (i:=8) rfl rfl ?_
     refine .R func16 results16 rfl ?_
     cases H
     exact .m rfl (.tupL ⟨.rfl' _,.rfl' _,.tsl _ _ _,.rfl' _,trivial⟩)
    ·intro hj2 hj2x
     obtain ⟨n1,H⟩:=loop_some H
     refine .loop (ι:=Nat×(List Reject×Int)) (fun ⟨_,y0tl1,v72l1⟩=>[(4,.ref 1 0),(6,.ref 3 0),(11,.d (slOf 1 rI y3.1)),(12,.vc 0 y0tl1.length),(16,.ref 4 0),(17,.d (slOf 3 Range.row y5.1)),(18,.d (slOf 12 Record.row y5.2.1)),(70,.d (slOf 4 Reject.row y5.2.2)),(71,.d (cI (y5.2.2.length:Int))),(72,.d (cI v72l1))]) (fun ⟨_,y0tl1,v72l1⟩=>⟨[.row 26 [.d (slOf 3 Range.row v0.seen),.d (slOf 12 Record.row v0.open_),.d (slOf 4 Head.row v0.heads)],.row 34 [.d (cI v1.source),.d (cI v1.number),.d (cI v1.format),.d (slOf 12 Record.row v1.records)],.row 36 [.d (cI v2.earliest),.d (cI v2.latest)],.row 26 [.d (nilD),.d (nilD),.d (nilD)],.row 26 [.d (slOf 3 Range.row y4.1),.d (slOf 12 Record.row y4.2.1),.tsl 4 (y4.2.2.map Head.row) 2]],[⟨47,4,y0tl1.length,some (y0tl1.map Reject.row)⟩,⟨49,12,v13j1.length,none⟩,⟨30,4,y4.2.2.length,none⟩]⟩) (fun p=>iter (fun s=>f_intake_Accept_l1 v1 y3 y4 y5 s.1 s.2) p.1 p.2=some r) (·.1) (n1,(y3.2,0)) H (.cons rfl (.rfl' _) (.cons rfl (.rfl' _) (.cons rfl (.rfl' _) (.cons rfl (.rfl' _) (.cons rfl (.rfl' _) (.cons rfl (.rfl' _) (.cons rfl (.rfl' _) (.cons rfl (.rfl' _) (.cons rfl (.rfl' _) (.cons rfl (.rfl' _) (.nil))))))))))) rfl ?_
     rintro ⟨m1,y0tl1,v72l1⟩ HI ih1
     obtain ⟨n1,q1,hm1,H,HK1⟩:=iter_succ HI
     clear HI
     replace H:f_intake_Accept_l1 v1 y3 y4 y5 y0tl1 v72l1=some q1:=H
     unfold f_intake_Accept_l1 at H
     refine .A 5 [] rfl trivial ?_
     refine .ite H rfl (fun H=>?_) (fun H=>?_)
     ·obtain ⟨hk2,H⟩:=ck_some H
      obtain ⟨hk3,H⟩:=ck_some H
      obtain ⟨hk4,H⟩:=ck_some H
      obtain ⟨hk5,H⟩:=ck_some H
      refine .A 32 [.d (.ro (Reject.row (nth y5.2.2 v72l1.toNat))),.r 5,.d (.ro (rI (nth y3.1 ((nth y5.2.2 v72l1.toNat).index).toNat))),.d (slOf 4 Reject.row ([(⟨(nth y5.2.2 v72l1.toNat).source,(nth y5.2.2 v72l1.toNat).serial,nth y3.1 ((nth y5.2.2 v72l1.toNat).index).toNat,(nth y5.2.2 v72l1.toNat).err⟩:Reject)]:List Reject)),.t (.vc 0 ((y0tl1++([(⟨(nth y5.2.2 v72l1.toNat).source,(nth y5.2.2 v72l1.toNat).serial,nth y3.1 ((nth y5.2.2 v72l1.toNat).index).toNat,(nth y5.2.2 v72l1.toNat).err⟩:Reject)]:List Reject)).length)) 0 ⟨47,4,((y0tl1++([(⟨(nth y5.2.2 v72l1.toNat).source,(nth y5.2.2 v72l1.toNat).serial,nth y3.1 ((nth y5.2.2 v72l1.toNat).index).toNat,(nth y5.2.2 v72l1.toNat).err⟩:Reject)]:List Reject)).length),some ((y0tl1++([(⟨(nth y5.2.2 v72l1.toNat).source,(nth y5.2.2 v72l1.toNat).serial,nth y3.1 ((nth y5.2.2 v72l1.toNat).index).toNat,(nth y5.2.2 v72l1.toNat).err⟩:Reject)]:List Reject)).map Reject.row)⟩,.i (v72l1+1)] rfl ⟨g_addI rfl rfl hk5,.e (v_appendV (l:=y0tl1) (l':=([(⟨(nth y5.2.2 v72l1.toNat).source,(nth y5.2.2 v72l1.toNat).serial,nth y3.1 ((nth y5.2.2 v72l1.toNat).index).toNat,(nth y5.2.2 v72l1.toNat).err⟩:Reject)]:List Reject)) (row:=Reject.row) underlying38 hi47 hz47 hs47 rfl (by rw [hb47]; decide) rfl rfl rfl rfl hk4) rfl,g_buildSlice1 underlying38 hi47 hs47 hz47 rfl rfl rfl rfl rfl,s69.ix rfl rfl rfl hk3,s38.ix rfl rfl rfl hk2⟩ ?_
      cases H
      exact .t 5 3 (ih1 (n1,(y0tl1++([(⟨(nth y5.2.2 v72l1.toNat).source,(nth y5.2.2 v72l1.toNat).serial,nth y3.1 ((nth y5.2.2 v72l1.toNat).index).toNat,(nth y5.2.2 v72l1.toNat).err⟩:Reject)]:List Reject),v72l1+1)) HK1 hm1) rfl rfl rfl rfl rfl hS rfl
     ·refine .A 1 [] rfl trivial ?_
      obtain ⟨q0,H9,hq0⟩:=map_some' H; clear H; cases hq0
      cases HK1
      have H:=H9
      exact .z (hj2x y0tl1 H) rfl rfl
   ·intro hj1 hj1x
    obtain ⟨n2,H⟩:=loop_some H
    refine .loop (ι:=Nat×(List Record×Int)) (fun ⟨_,v13l2,v47l2⟩=>[(3,.ref 0 0),(4,.ref 1 0),(6,.ref 3 0),(11,.d (slOf 1 rI y3.1)),(12,.vc 0 y3.2.length),(13,.tsl 12 (v13l2.map Record.row) 1),(45,.d (slOf 1 rI y3.1)),(46,.d (cI (y3.1.length:Int))),(47,.d (cI v47l2))]) (fun ⟨_,v13l2,v47l2⟩=>⟨[.row 26 [.d (slOf 3 Range.row v0.seen),.d (slOf 12 Record.row v0.open_),.d (slOf 4 Head.row v0.heads)],.row 34 [.d (cI v1.source),.d (cI v1.number),.d (cI v1.format),.d (slOf 12 Record.row v1.records)],.row 36 [.d (cI v2.earliest),.d (cI v2.latest)],.row 26 [.d (nilD),.d (nilD),.d (nilD)]],[⟨47,4,y3.2.length,some (y3.2.map Reject.row)⟩,⟨49,12,v13l2.length,none⟩]⟩) (fun p=>iter (fun s=>f_intake_Accept_l2 v0 v1 y3 s.1 s.2) p.1 p.2=some r) (·.1) (n2,(([]:List Record),0)) H (.cons rfl (.rfl' _) (.cons rfl (.rfl' _) (.cons rfl (.rfl' _) (.cons rfl (.rfl' _) (.cons rfl (.rfl' _) (.cons rfl (.rfl' _) (.cons rfl (.rfl' _) (.cons rfl (.rfl' _) (.cons rfl (.rfl' _) (.nil)))))))))) rfl ?_
    rintro ⟨m1,v13l2,v47l2⟩ HI ih1
    obtain ⟨n1,q1,hm1,H,HK1⟩:=iter_succ HI
    clear HI
    replace H:f_intake_Accept_l2 v0 v1 y3 v13l2 v47l2=some q1:=H
    unfold f_intake_Accept_l2 at H
    refine .A 5 [] rfl trivial ?_
    refine .ite H rfl (fun H=>?_) (fun H=>?_)
    ·obtain ⟨hk6,H⟩:=ck_some H
     obtain ⟨hk7,H⟩:=ck_some H
     obtain ⟨hk8,H⟩:=ck_some H
     obtain ⟨hk9,H⟩:=ck_some H
     refine .A 25 [.d (.ro (rI (nth y3.1 v47l2.toNat))),.d (.ro (Record.row (nth v1.records (nth y3.1 v47l2.toNat).toNat))),.d (slOf 12 Record.row ([nth v1.records (nth y3.1 v47l2.toNat).toNat]:List Record)),.a 1 49 12 Record.row (v13l2++([nth v1.records (nth y3.1 v47l2.toNat).toNat]:List Record)),.i (v47l2+1)] rfl ⟨g_addI rfl rfl hk9,s23.a rfl rfl rfl rfl hk8,g_buildSlice1 underlying23 hi49 hs49 hz49 rfl rfl rfl rfl rfl,s23.ix rfl rfl rfl hk7,s69.ix rfl rfl rfl hk6⟩ ?_
     cases H
     exact .z (ih1 (n1,(v13l2++([nth v1.records (nth y3.1 v47l2.toNat).toNat]:List Record),v47l2+1)) HK1 hm1) rfl rfl
    ·refine .A 1 [] rfl trivial ?_
     obtain ⟨q0,H9,hq0⟩:=map_some' H; clear H; cases hq0
     cases HK1
     have H:=H9
     exact .z (hj1x v13l2 H) rfl rfl
theorem c_f_dedup_Check {v0seen:List Range} {r:Bool} (H:f_dedup_Check v0seen=some r):ACall prog 27 [slOf 3 Range.row v0seen] (·=cB r):=by
 refine ACall.enter' func27 rfl ntmps27 rfl fun S hS=>?_
 unfold f_dedup_Check at H
 refine .A 12 [.i (v0seen.length:Int)] rfl (s22.n rfl rfl) ?_
 obtain ⟨n1,H⟩:=loop_some H
 refine .loop (ι:=Nat×(Int)) (fun ⟨_,v8l1⟩=>[(0,.d (slOf 3 Range.row v0seen)),(6,.d (slOf 3 Range.row v0seen)),(7,.d (cI (v0seen.length:Int))),(8,.d (cI v8l1))]) (fun ⟨_,v8l1⟩=>⟨[],[]⟩) (fun p=>iter (fun s=>f_dedup_Check_l1 v0seen s) p.1 p.2=some r) (·.1) (n1,0) H (.cons rfl (.rfl' _) (.cons rfl (.rfl' _) (.cons rfl (.rfl' _) (.cons rfl (.rfl' _) (.nil))))) rfl ?_
 rintro ⟨m1,v8l1⟩ HI ih1
 obtain ⟨n1,q1,hm1,H,HK1⟩:=iter_succ HI
 clear HI
 replace H:f_dedup_Check_l1 v0seen v8l1=some q1:=H
 unfold f_dedup_Check_l1 at H
 refine .A 5 [] rfl trivial ?_
 refine .ite H rfl (fun H=>?_) (fun H=>?_)
 ·obtain ⟨hk1,H⟩:=ck_some H
  obtain ⟨y1,hy1,H⟩:=bind_some' H
  obtain ⟨y2,hy2,H⟩:=bind_some' H
  refine .A 37 [.d (.ro (Range.row (nth v0seen v8l1.toNat))),.r 0,.b y1,.b y2] rfl ⟨rfl,rfl,rfl,rfl,rfl,rfl,rfl,fun hg=>g_call (en 17 rfl) rfl rfl (c_f_dedup_identity (gcall_some hy2 hg)),rfl,rfl,rfl,rfl,g_call (en 17 rfl) rfl rfl (c_f_dedup_identity (hy1)),s22.ix rfl rfl rfl hk1⟩ ?_
  refine .ite H rfl (fun H=>?_) (fun H=>?_)
  ·refine .A 4 [] rfl trivial ?_
   refine .R func27 results27 rfl ?_
   cases H
   cases HK1
   exact .m rfl (.rfl' _)
  ·refine .A 6 [] rfl trivial ?_
   refine .ite H rfl (fun H=>?_) (fun H=>?_)
   ·obtain ⟨hk2,H⟩:=ck_some H
    obtain ⟨hk3,H⟩:=ck_some H
    obtain ⟨hk4,H⟩:=ck_some H
    refine .B 30 [.i (v8l1-1),.d (.ro (Range.row (nth v0seen (v8l1-1).toNat))),.r 1,.i (((nth v0seen (v8l1-1).toNat).to_)+1)] rfl ⟨rfl,rfl,rfl,fun hg=>g_addI rfl rfl (hk4 hg),rfl,rfl,rfl,rfl,rfl,rfl,rfl,s22.ix rfl rfl rfl hk3,g_subI rfl rfl hk2⟩ ?_
    refine .guardG (env':=[(52,_),(58,_)]) rfl rfl rfl ⟨.inr (.inl rfl),⟨.inr (.inr ⟨_,_,rfl,rfl⟩),trivial⟩⟩ rfl (fun hg=>OpQ.g (q_pickAndB rfl rfl rfl)) ?_
    refine .A 2 [] rfl rfl ?_
    refine .ite H rfl (fun H=>?_) (fun H=>?_)
    ·refine .A 4 [] rfl trivial ?_
     refine .R func27 results27 rfl ?_
     cases H
     cases HK1
     exact .m rfl (.rfl' _)
    ·obtain ⟨hk5,H⟩:=ck_some H
     refine .A 6 [.i (v8l1+1)] rfl (g_addI rfl rfl hk5) ?_
     cases H
     exact .t 0 0 (ih1 (n1,(v8l1+1)) HK1 hm1) rfl rfl rfl rfl rfl hS rfl
   ·obtain ⟨hk6,H⟩:=ck_some H
    refine .A 6 [.i (v8l1+1)] rfl (g_addI rfl rfl hk6) ?_
    cases H
    exact .t 0 0 (ih1 (n1,(v8l1+1)) HK1 hm1) rfl rfl rfl rfl rfl hS rfl
 ·refine .A 5 [] rfl trivial ?_
  refine .R func27 results27 rfl ?_
  cases H
  cases HK1
  exact .m rfl (.rfl' _)
theorem c_f_api_Record {v0s1:List Record} {v1s2:List Record} {r:Bool} (H:f_api_Record v0s1 v1s2=some r):ACall prog 55 [slOf 12 Record.row v0s1,slOf 12 Record.row v1s2] (·=cB r):=by
 refine ACall.enter' func55 rfl ntmps55 rfl fun S hS=>?_
 unfold f_api_Record at H
 refine .A 13 [.i (v0s1.length:Int),.i (v1s2.length:Int)] rfl ⟨s23.n rfl rfl,s23.n rfl rfl⟩ ?_
 refine .ite H rfl (fun H=>?_) (fun H=>?_)
 ·refine .A 4 [] rfl trivial ?_
  refine .R func55 results55 rfl ?_
  cases H
  exact .m rfl (.rfl' _)
 ·refine .A 9 [.i (v0s1.length:Int)] rfl (s23.n rfl rfl) ?_
  obtain ⟨n1,H⟩:=loop_some H
  refine .loop (ι:=Nat×(Int)) (fun ⟨_,v13l1⟩=>[(0,.d (slOf 12 Record.row v0s1)),(1,.d (slOf 12 Record.row v1s2)),(12,.d (cI (v0s1.length:Int))),(13,.d (cI v13l1))]) (fun ⟨_,v13l1⟩=>⟨[],[]⟩) (fun p=>iter (fun s=>f_api_Record_l1 v0s1 v1s2 s) p.1 p.2=some r) (·.1) (n1,0) H (.cons rfl (.rfl' _) (.cons rfl (.rfl' _) (.cons rfl (.rfl' _) (.cons rfl (.rfl' _) (.nil))))) rfl ?_
  rintro ⟨m1,v13l1⟩ HI ih1
  obtain ⟨n1,q1,hm1,H,HK1⟩:=iter_succ HI
  clear HI
  replace H:f_api_Record_l1 v0s1 v1s2 v13l1=some q1:=H
  unfold f_api_Record_l1 at H
  refine .A 5 [] rfl trivial ?_
  refine .ite H rfl (fun H=>?_) (fun H=>?_)
  ·obtain ⟨hk1,H⟩:=ck_some H
   obtain ⟨hk2,H⟩:=ck_some H
   refine .A 21 [.p 9,.d (.ro (Record.row (nth v0s1 v13l1.toNat))),.d (.ro (Record.row (nth v1s2 v13l1.toNat))),.b (!(eqVs (Record.vals (nth v0s1 v13l1.toNat)) (Record.vals (nth v1s2 v13l1.toNat))))] rfl ⟨OpQ.g (q_stneq fk_49 rfl rfl (xs:=Record.vals (nth v0s1 v13l1.toNat)) (ys:=Record.vals (nth v1s2 v13l1.toNat)) rfl rfl rfl rfl),s23.ix rfl rfl rfl hk2,s23.ix rfl rfl rfl hk1,(show drawB _ _=true by kernel_rfl)⟩ ?_
   refine .ite H rfl (fun H=>?_) (fun H=>?_)
   ·refine .A 4 [] rfl trivial ?_
    refine .R func55 results55 rfl ?_
    cases H
    cases HK1
    exact .m rfl (.rfl' _)
   ·obtain ⟨hk3,H⟩:=ck_some H
    refine .A 6 [.i (v13l1+1)] rfl (g_addI rfl rfl hk3) ?_
    cases H
    exact .z (ih1 (n1,(v13l1+1)) HK1 hm1) rfl rfl
  ·refine .A 5 [] rfl trivial ?_
   refine .R func55 results55 rfl ?_
   cases H
   cases HK1
   exact .m rfl (.rfl' _)
theorem c_f_intake_open {v0in:Intake} {r:Bool} (H:f_intake_open v0in=some r):ACall prog 28 [.agg (Intake.row v0in)] (·=cB r):=by
 obtain ⟨i4,hi4,hz4,hs4,hb4⟩:=in_4
 obtain ⟨i90,hi90,hz90,hs90,hb90⟩:=in_90
 refine ACall.enter' func28 rfl ntmps28 rfl fun S hS=>?_
 unfold f_intake_open at H
 refine .A 18 [.r 0,.v (.mp 1) ⟨[.row 26 [.d (slOf 3 Range.row v0in.seen),.d (slOf 12 Record.row v0in.open_),.d (slOf 4 Head.row v0in.heads)],.map (mEnc (fun x=>Value.agg (IntakeIdentity.vals x).toArray) (fun x=>cB x) ([]:List (IntakeIdentity×Bool)))],[]⟩,.i (v0in.open_.length:Int)] rfl ⟨s23.n rfl rfl,.e (v_makeMap) rfl⟩ ?_
 refine .blockJoin2 (ι:=(List (IntakeIdentity×Bool))) (fun o1c0j1=>[(1,.ref 0 0)]) (fun o1c0j1=>⟨[.row 26 [.d (slOf 3 Range.row v0in.seen),.d (slOf 12 Record.row v0in.open_),.d (slOf 4 Head.row v0in.heads)],.map (mEnc (fun x=>Value.agg (IntakeIdentity.vals x).toArray) (fun x=>cB x) o1c0j1)],[]⟩) (fun s=>f_intake_open_j1 v0in s=some r) ?_ ?_
 ·rintro o1c0j1 H
  replace H:f_intake_open_j1 v0in o1c0j1=some r:=H
  unfold f_intake_open_j1 at H
  obtain ⟨y1,hy1,H⟩:=bind_some' H
  obtain ⟨y2,hy2,H⟩:=bind_some' H
  refine .A 24 [.d (.tup [slOf 12 Record.row y1.1,slOf 12 Record.row y1.2]),.i (y1.1.length:Int),.b y2] rfl ⟨rfl,fun hg=>g_call (en 50 rfl) rfl rfl (c_f_api_Record (gcall_some hy2 hg)),rfl,rfl,rfl,s23.n rfl rfl,g_call (en 49 rfl) rfl rfl ((c_f_correlate_Join (hy1)).le ⟨.nil 12,.rfl' _,trivial⟩)⟩ ?_
  refine .R func28 results28 rfl ?_
  cases H
  exact .m rfl (.rfl' _)
 ·intro hj1 hj1x
  obtain ⟨n1,H⟩:=loop_some H
  refine .loop (ι:=Nat×(Int×(List (IntakeIdentity×Bool)))) (fun ⟨_,v13l1,o1c0l1⟩=>[(1,.ref 0 0),(3,.mp 1),(11,.d (slOf 12 Record.row v0in.open_)),(12,.d (cI (v0in.open_.length:Int))),(13,.d (cI v13l1))]) (fun ⟨_,v13l1,o1c0l1⟩=>⟨[.row 26 [.d (slOf 3 Range.row v0in.seen),.d (slOf 12 Record.row v0in.open_),.d (slOf 4 Head.row v0in.heads)],.map (mEnc (fun x=>Value.agg (IntakeIdentity.vals x).toArray) (fun x=>cB x) o1c0l1)],[]⟩) (fun p=>iter (fun s=>f_intake_open_l1 v0in s.1 s.2) p.1 p.2=some r) (·.1) (n1,(0,([]:List (IntakeIdentity×Bool)))) H (.cons rfl (.rfl' _) (.cons rfl (.rfl' _) (.cons rfl (.rfl' _) (.cons rfl (.rfl' _) (.cons rfl (.rfl' _) (.nil)))))) rfl ?_
  rintro ⟨m1,v13l1,o1c0l1⟩ HI ih1
  obtain ⟨n1,q1,hm1,H,HK1⟩:=iter_succ HI
  clear HI
  replace H:f_intake_open_l1 v0in v13l1 o1c0l1=some q1:=H
  unfold f_intake_open_l1 at H
  refine .A 5 [] rfl trivial ?_
  refine .ite H rfl (fun H=>?_) (fun H=>?_)
  ·obtain ⟨hk1,H⟩:=ck_some H
   obtain ⟨y3,hy3,H⟩:=bind_some' H
   obtain ⟨y4,hy4,H⟩:=bind_some' H
   refine .A 47 [.d (.ro (Record.row (nth v0in.open_ v13l1.toNat))),.r 2,.d (.agg (IntakeIdentity.row (⟨(nth v0in.open_ v13l1.toNat).source,(nth v0in.open_ v13l1.toNat).serial⟩:IntakeIdentity))),.r 3,.i y3,.b ((alook o1c0l1 (⟨(nth v0in.open_ v13l1.toNat).source,(nth v0in.open_ v13l1.toNat).serial⟩:IntakeIdentity)).getD false),.b y4] rfl ⟨rfl,rfl,fun hg=>g_call (en 23 rfl) rfl rfl (c_f_dedup_Has (gcall_some hy4 hg)),rfl,rfl,rfl,rfl,rfl,rfl,rfl,fun hg=>OpQ.g (q_lookupD kf_IntakeIdentity (l:=o1c0l1) (val:=(fun x=>cB x)) (k:=(⟨(nth v0in.open_ v13l1.toNat).source,(nth v0in.open_ v13l1.toNat).serial⟩:IntakeIdentity)) (a0:=false) underlying88 hi4 hz4 (show DLe (cB false) (cB false) from .rfl' _) rfl rfl rfl (fun _ _ _ h=>aggKey (vs:=_) h rfl)),rfl,rfl,rfl,rfl,fun hg=>g_call (en 32 rfl) rfl rfl (c_f_validate_Check (gcall_some hy3 hg)),rfl,OpQ.g (q_buildP pl_90 hi90 hz90 rfl rfl),s23.ix rfl rfl rfl hk1⟩ ?_
   refine .ite H rfl (fun H=>?_) (fun H=>?_)
   ·refine .A 4 [] rfl trivial ?_
    refine .R func28 results28 rfl ?_
    cases H
    cases HK1
    exact .m rfl (.rfl' _)
   ·obtain ⟨hk2,H⟩:=ck_some H
    refine .A 11 [.u ⟨[.row 26 [.d (slOf 3 Range.row v0in.seen),.d (slOf 12 Record.row v0in.open_),.d (slOf 4 Head.row v0in.heads)],.map (mEnc (fun x=>Value.agg (IntakeIdentity.vals x).toArray) (fun x=>cB x) (aset o1c0l1 (⟨(nth v0in.open_ v13l1.toNat).source,(nth v0in.open_ v13l1.toNat).serial⟩:IntakeIdentity) true)),.row 49 [.d (cI ((nth v0in.open_ v13l1.toNat).source)),.d (cI ((nth v0in.open_ v13l1.toNat).serial)),.d (cI ((nth v0in.open_ v13l1.toNat).kind)),.d (cS ((nth v0in.open_ v13l1.toNat).a)),.d (cS ((nth v0in.open_ v13l1.toNat).b)),.d (cI ((nth v0in.open_ v13l1.toNat).start)),.d (cI ((nth v0in.open_ v13l1.toNat).units)),.d (cI ((nth v0in.open_ v13l1.toNat).call)),.d (cI ((nth v0in.open_ v13l1.toNat).part)),.d (cB ((nth v0in.open_ v13l1.toNat).last)),.d (cI ((nth v0in.open_ v13l1.toNat).trunk)),.d (cB ((nth v0in.open_ v13l1.toNat).inbound))],.row 90 [.d (cI ((nth v0in.open_ v13l1.toNat).source)),.d (cI ((nth v0in.open_ v13l1.toNat).serial))]],[]⟩,.i (v13l1+1)] rfl ⟨g_addI rfl rfl hk2,.e (u_mapUpdateD kf_IntakeIdentity (l:=o1c0l1) (val:=(fun x=>cB x)) (k:=(⟨(nth v0in.open_ v13l1.toNat).source,(nth v0in.open_ v13l1.toNat).serial⟩:IntakeIdentity)) (a:=true) underlying88 rfl rfl rfl (fun _ _ _ h=>aggKey (vs:=_) h rfl) rfl (.rfl' _)) rfl⟩ ?_
    cases H
    exact .t 2 0 (ih1 (n1,(v13l1+1,aset o1c0l1 (⟨(nth v0in.open_ v13l1.toNat).source,(nth v0in.open_ v13l1.toNat).serial⟩:IntakeIdentity) true)) HK1 hm1) rfl rfl rfl rfl (okBoth rfl (okCons rfl (okCons okMap rfl))) hS rfl
  ·refine .A 1 [] rfl trivial ?_
   obtain ⟨q0,H9,hq0⟩:=map_some' H; clear H; cases hq0
   cases HK1
   have H:=H9
   exact .z (hj1x o1c0l1 H) rfl rfl
set_option maxRecDepth 100000
set_option maxHeartbeats 1000000
theorem c_g_intake_heads {v0:List Head} {r:(List (Int×Int))} (H:g_intake_heads v0=some r):ACallS prog 26 [.d (slOf 4 Head.row v0)] ⟨[],[]⟩ (QE (.tup [.mp 0,.d (cB true)]) ⟨[.map (mEnc (fun n=>Value.int .i64 n) (fun x=>cI x) r)],[]⟩):=by
 obtain ⟨i3,hi3,hz3,hs3,hb3⟩:=in_3
 obtain ⟨i26,hi26,hz26,hs26,hb26⟩:=in_26
 obtain ⟨i30,hi30,hz30,hs30,hb30⟩:=in_30
 refine ACallS.keep ?_
 refine ACallS.enter func26 rfl ntmps26 rfl fun S hS=>?_
 unfold g_intake_heads at H
 refine .A 18 [.v (.mp 0) ⟨[.map (mEnc (fun n=>Value.int .i64 n) (fun x=>cI x) ([]:List (Int×Int)))],[]⟩,.i (v0.length:Int)] rfl ⟨s24.n rfl rfl,.e (v_makeMap) rfl⟩ ?_
 obtain ⟨n1,H⟩:=loop_some H
 refine .loop (ι:=Nat×(Int×(List (Int×Int)))) (fun ⟨_,v11l1,o0c0l1⟩=>[(0,.d (slOf 4 Head.row v0)),(4,.mp 0),(9,.d (slOf 4 Head.row v0)),(10,.d (cI (v0.length:Int))),(11,.d (cI v11l1))]) (fun ⟨_,v11l1,o0c0l1⟩=>⟨[.map (mEnc (fun n=>Value.int .i64 n) (fun x=>cI x) o0c0l1)],[]⟩) (fun p=>iter (fun s=>g_intake_heads_l1 v0 s.1 s.2) p.1 p.2=some r) (·.1) (n1,(0,([]:List (Int×Int)))) H (.cons rfl (.rfl' _) (.cons rfl (.rfl' _) (.cons rfl (.rfl' _) (.cons rfl (.rfl' _) (.cons rfl (.rfl' _) (.nil)))))) rfl ?_
 rintro ⟨m1,v11l1,o0c0l1⟩ HI ih1
 obtain ⟨n1,q1,hm1,H,HK1⟩:=iter_succ HI
 clear HI
 replace H:g_intake_heads_l1 v0 v11l1 o0c0l1=some q1:=H
 unfold g_intake_heads_l1 at H
 refine .A 5 [] rfl trivial ?_
 refine .ite H rfl (fun H=>?_) (fun H=>?_)
 ·obtain ⟨hk1,H⟩:=ck_some H
  obtain ⟨hk2,H⟩:=ck_some H
  obtain ⟨y1,hy1,H⟩:=bind_some' H
  refine .A 73 [.d (.ro (Head.row (nth v0 v11l1.toNat))),.r 1,.r 2,.p 8,.d (slOf 4 Head.row (v0.take v11l1.toNat)),.d (.agg (Intake.row (⟨([]:List Range),([]:List Record),v0.take v11l1.toNat⟩:Intake))),.i y1,.b (!(eqVs (Head.vals (nth v0 v11l1.toNat)) (Head.vals (⟨(nth v0 v11l1.toNat).source,y1,(nth v0 v11l1.toNat).format,(nth v0 v11l1.toNat).count⟩:Head))))] rfl ⟨rfl,rfl,rfl,rfl,rfl,rfl,rfl,rfl,rfl,rfl,rfl,rfl,rfl,rfl,rfl,rfl,rfl,rfl,rfl,rfl,rfl,OpQ.g (q_stneq fk_30 rfl rfl (xs:=Head.vals (nth v0 v11l1.toNat)) (ys:=Head.vals (⟨(nth v0 v11l1.toNat).source,y1,(nth v0 v11l1.toNat).format,(nth v0 v11l1.toNat).count⟩:Head)) rfl rfl rfl rfl),g_call (en 44 rfl) rfl rfl (c_f_intake_Next (hy1)),OpQ.g (OpQ.le (q_buildP pl_26 hi26 hz26 rfl rfl) (EVle.d (.agg ⟨.nil 3,.nil 12,.rfl' _,trivial⟩))),OpQ.g (q_slHL (l:=v0) (row:=Head.row) underlying24 hi30 hs30 rfl rfl rfl hk2),(show drawB _ _=true by kernel_rfl),s24.ix rfl rfl rfl hk1⟩ ?_
  refine .ite H rfl (fun H=>?_) (fun H=>?_)
  ·refine .A 5 [] rfl trivial ?_
   cases H
  ·obtain ⟨hk3,H⟩:=ck_some H
   obtain ⟨hk4,H⟩:=ck_some H
   refine .A 16 [.i ((alook o0c0l1 ((nth v0 v11l1.toNat).source)).getD 0),.i (((alook o0c0l1 ((nth v0 v11l1.toNat).source)).getD 0)+((nth v0 v11l1.toNat).count)),.u ⟨[.map (mEnc (fun n=>Value.int .i64 n) (fun x=>cI x) (aset o0c0l1 ((nth v0 v11l1.toNat).source) (((alook o0c0l1 ((nth v0 v11l1.toNat).source)).getD 0)+((nth v0 v11l1.toNat).count)))),.row 30 [.d (cI ((nth v0 v11l1.toNat).source)),.d (cI ((nth v0 v11l1.toNat).number)),.d (cI ((nth v0 v11l1.toNat).format)),.d (cI ((nth v0 v11l1.toNat).count))],.row 30 [.d (cI ((nth v0 v11l1.toNat).source)),.d (cI y1),.d (cI ((nth v0 v11l1.toNat).format)),.d (cI ((nth v0 v11l1.toNat).count))]],[]⟩,.i (v11l1+1)] rfl ⟨g_addI rfl rfl hk4,.e (u_mapUpdateD (intKF underlying3) (l:=o0c0l1) (val:=(fun x=>cI x)) (k:=(nth v0 v11l1.toNat).source) (a:=((alook o0c0l1 ((nth v0 v11l1.toNat).source)).getD 0)+((nth v0 v11l1.toNat).count)) underlying60 rfl rfl rfl (fun _ _ _ h=>exKey h) rfl (.rfl' _)) rfl,g_addI rfl rfl hk3,OpQ.g (q_lookupD (intKF underlying3) (l:=o0c0l1) (val:=(fun x=>cI x)) (k:=(nth v0 v11l1.toNat).source) (a0:=0) underlying60 hi3 hz3 (show DLe (cI 0) (cI 0) from .rfl' _) rfl rfl rfl (fun _ _ _ h=>exKey h))⟩ ?_
   cases H
   exact .t 1 0 (ih1 (n1,(v11l1+1,aset o0c0l1 ((nth v0 v11l1.toNat).source) (((alook o0c0l1 ((nth v0 v11l1.toNat).source)).getD 0)+((nth v0 v11l1.toNat).count)))) HK1 hm1) rfl rfl rfl rfl (okBoth rfl (okCons okMap rfl)) hS rfl
 ·refine .A 7 [] rfl trivial ?_
  refine .R func26 results26 rfl ?_
  cases H
  cases HK1
  exact ⟨[0],[],rfl,(okCons okMap rfl),(by first | rfl | (simp only [List.map_cons,List.map_nil,renMap,renArr,mergeSt]; rfl)),(by first | rfl | (simp only [List.map_cons,List.map_nil,renMap,renArr,mergeSt]; rfl)),(by first | rfl | (simp only [List.map_cons,List.map_nil,renMap,renArr,mergeSt]; rfl)),(by first | rfl | (simp only [List.map_cons,List.map_nil,renMap,renArr,mergeSt]; rfl)),(by first | rfl | (simp only [List.map_cons,List.map_nil,renMap,renArr,mergeSt]; rfl)),(by first | rfl | (simp only [List.map_cons,List.map_nil,renMap,renArr,mergeSt]; rfl)),.tupE ⟨.rfl' _,.rfl' _,trivial⟩⟩
theorem c_g_intake_heads_v1 {v0:List Head} {r:Unit} (H:g_intake_heads_v1 v0=some r):ACallS prog 26 [.d (slOf 4 Head.row v0)] ⟨[],[]⟩ (QE (.tup [.d (.any),.d (cB false)]) ⟨[],[]⟩):=by
 obtain ⟨i3,hi3,hz3,hs3,hb3⟩:=in_3
 obtain ⟨i26,hi26,hz26,hs26,hb26⟩:=in_26
 obtain ⟨i30,hi30,hz30,hs30,hb30⟩:=in_30
 refine ACallS.keep ?_
 refine ACallS.enter func26 rfl ntmps26 rfl fun S hS=>?_
 unfold g_intake_heads_v1 at H
 refine .A 18 [.v (.mp 0) ⟨[.map (mEnc (fun n=>Value.int .i64 n) (fun x=>cI x) ([]:List (Int×Int)))],[]⟩,.i (v0.length:Int)] rfl ⟨s24.n rfl rfl,.e (v_makeMap) rfl⟩ ?_
 obtain ⟨n1,H⟩:=loop_some H
 refine .loop (ι:=Nat×(Int×(List (Int×Int)))) (fun ⟨_,v11l1,o0c0l1⟩=>[(0,.d (slOf 4 Head.row v0)),(4,.mp 0),(9,.d (slOf 4 Head.row v0)),(10,.d (cI (v0.length:Int))),(11,.d (cI v11l1))]) (fun ⟨_,v11l1,o0c0l1⟩=>⟨[.map (mEnc (fun n=>Value.int .i64 n) (fun x=>cI x) o0c0l1)],[]⟩) (fun p=>iter (fun s=>g_intake_heads_v1_l1 v0 s.1 s.2) p.1 p.2=some r) (·.1) (n1,(0,([]:List (Int×Int)))) H (.cons rfl (.rfl' _) (.cons rfl (.rfl' _) (.cons rfl (.rfl' _) (.cons rfl (.rfl' _) (.cons rfl (.rfl' _) (.nil)))))) rfl ?_
 rintro ⟨m1,v11l1,o0c0l1⟩ HI ih1
 obtain ⟨n1,q1,hm1,H,HK1⟩:=iter_succ HI
 clear HI
 replace H:g_intake_heads_v1_l1 v0 v11l1 o0c0l1=some q1:=H
 unfold g_intake_heads_v1_l1 at H
 refine .A 5 [] rfl trivial ?_
 refine .ite H rfl (fun H=>?_) (fun H=>?_)
 ·obtain ⟨hk1,H⟩:=ck_some H
  obtain ⟨hk2,H⟩:=ck_some H
  obtain ⟨y1,hy1,H⟩:=bind_some' H
  refine .A 73 [.d (.ro (Head.row (nth v0 v11l1.toNat))),.r 1,.r 2,.p 8,.d (slOf 4 Head.row (v0.take v11l1.toNat)),.d (.agg (Intake.row (⟨([]:List Range),([]:List Record),v0.take v11l1.toNat⟩:Intake))),.i y1,.b (!(eqVs (Head.vals (nth v0 v11l1.toNat)) (Head.vals (⟨(nth v0 v11l1.toNat).source,y1,(nth v0 v11l1.toNat).format,(nth v0 v11l1.toNat).count⟩:Head))))] rfl ⟨rfl,rfl,rfl,rfl,rfl,rfl,rfl,rfl,rfl,rfl,rfl,rfl,rfl,rfl,rfl,rfl,rfl,rfl,rfl,rfl,rfl,OpQ.g (q_stneq fk_30 rfl rfl (xs:=Head.vals (nth v0 v11l1.toNat)) (ys:=Head.vals (⟨(nth v0 v11l1.toNat).source,y1,(nth v0 v11l1.toNat).format,(nth v0 v11l1.toNat).count⟩:Head)) rfl rfl rfl rfl),g_call (en 44 rfl) rfl rfl (c_f_intake_Next (hy1)),OpQ.g (OpQ.le (q_buildP pl_26 hi26 hz26 rfl rfl) (EVle.d (.agg ⟨.nil 3,.nil 12,.rfl' _,trivial⟩))),OpQ.g (q_slHL (l:=v0) (row:=Head.row) underlying24 hi30 hs30 rfl rfl rfl hk2),(show drawB _ _=true by kernel_rfl),s24.ix rfl rfl rfl hk1⟩ ?_
  refine .ite H rfl (fun H=>?_) (fun H=>?_)
  ·refine .A 5 [] rfl trivial ?_
   refine .R func26 results26 rfl ?_
   cases H
   cases HK1
   exact ⟨[],[],rfl,rfl,(by first | rfl | (simp only [List.map_cons,List.map_nil,renMap,renArr,mergeSt]; rfl)),(by first | rfl | (simp only [List.map_cons,List.map_nil,renMap,renArr,mergeSt]; rfl)),(by first | rfl | (simp only [List.map_cons,List.map_nil,renMap,renArr,mergeSt]; rfl)),(by first | rfl | (simp only [List.map_cons,List.map_nil,renMap,renArr,mergeSt]; rfl)),(by first | rfl | (simp only [List.map_cons,List.map_nil,renMap,renArr,mergeSt]; rfl)),(by first | rfl | (simp only [List.map_cons,List.map_nil,renMap,renArr,mergeSt]; rfl)),.tupE ⟨.any _,.rfl' _,trivial⟩⟩
  ·obtain ⟨hk3,H⟩:=ck_some H
   obtain ⟨hk4,H⟩:=ck_some H
   refine .A 16 [.i ((alook o0c0l1 ((nth v0 v11l1.toNat).source)).getD 0),.i (((alook o0c0l1 ((nth v0 v11l1.toNat).source)).getD 0)+((nth v0 v11l1.toNat).count)),.u ⟨[.map (mEnc (fun n=>Value.int .i64 n) (fun x=>cI x) (aset o0c0l1 ((nth v0 v11l1.toNat).source) (((alook o0c0l1 ((nth v0 v11l1.toNat).source)).getD 0)+((nth v0 v11l1.toNat).count)))),.row 30 [.d (cI ((nth v0 v11l1.toNat).source)),.d (cI ((nth v0 v11l1.toNat).number)),.d (cI ((nth v0 v11l1.toNat).format)),.d (cI ((nth v0 v11l1.toNat).count))],.row 30 [.d (cI ((nth v0 v11l1.toNat).source)),.d (cI y1),.d (cI ((nth v0 v11l1.toNat).format)),.d (cI ((nth v0 v11l1.toNat).count))]],[]⟩,.i (v11l1+1)] rfl ⟨g_addI rfl rfl hk4,.e (u_mapUpdateD (intKF underlying3) (l:=o0c0l1) (val:=(fun x=>cI x)) (k:=(nth v0 v11l1.toNat).source) (a:=((alook o0c0l1 ((nth v0 v11l1.toNat).source)).getD 0)+((nth v0 v11l1.toNat).count)) underlying60 rfl rfl rfl (fun _ _ _ h=>exKey h) rfl (.rfl' _)) rfl,g_addI rfl rfl hk3,OpQ.g (q_lookupD (intKF underlying3) (l:=o0c0l1) (val:=(fun x=>cI x)) (k:=(nth v0 v11l1.toNat).source) (a0:=0) underlying60 hi3 hz3 (show DLe (cI 0) (cI 0) from .rfl' _) rfl rfl rfl (fun _ _ _ h=>exKey h))⟩ ?_
   cases H
   exact .t 1 0 (ih1 (n1,(v11l1+1,aset o0c0l1 ((nth v0 v11l1.toNat).source) (((alook o0c0l1 ((nth v0 v11l1.toNat).source)).getD 0)+((nth v0 v11l1.toNat).count)))) HK1 hm1) rfl rfl rfl rfl (okBoth rfl (okCons okMap rfl)) hS rfl
 ·refine .A 7 [] rfl trivial ?_
  cases H
theorem c_f_intake_Check {v0in:Intake} {r:Bool} (H:f_intake_Check v0in=some r):ACall prog 11 [.agg (Intake.row v0in)] (·=cB r):=by
 obtain ⟨i3,hi3,hz3,hs3,hb3⟩:=in_3
 refine ACall.enter' func11 rfl ntmps11 rfl fun S hS=>?_
 unfold f_intake_Check at H
 refine .A 6 [.r 0] rfl trivial ?_
 refine .split ((g_intake_heads v0in.heads).isSome) (fun hsp1=>?_) (fun hsp1=>?_)
 ·replace H:=ifT hsp1 H
  obtain ⟨y1,hy1,H⟩:=bind_some' H
  refine .B 3 [] rfl trivial ?_
  refine .callF (en 51 rfl) rfl [] [] (x:=.tup [.mp 1,.d (cB true)]) (st':=⟨[.row 26 [.d (slOf 3 Range.row v0in.seen),.d (slOf 12 Record.row v0in.open_),.d (slOf 4 Head.row v0in.heads)],.map (mEnc (fun n=>Value.int .i64 n) (fun x=>cI x) y1)],[]⟩) rfl (c_g_intake_heads (hy1)) ⟨.rfl' _,trivial⟩ rfl rfl (by first | rfl | (simp only [List.map_cons,List.map_nil,renMap,renArr,mergeSt]; rfl)) rfl rfl (by first | rfl | (simp only [List.map_cons,List.map_nil,renMap,renArr,mergeSt]; rfl)) ?_
  obtain ⟨y2,hy2,H⟩:=bind_some' H
  obtain ⟨y3,hy3,H⟩:=bind_some' H
  refine .A 23 [.b y2,.b y3] rfl ⟨rfl,rfl,fun hg=>g_call (en 52 rfl) rfl rfl (c_f_intake_open (gcall_some hy3 hg)),rfl,rfl,rfl,fun hg=>g_call (en 53 rfl) rfl rfl (c_f_dedup_Check (gcall_some hy2 hg)),rfl,rfl⟩ ?_
  refine .ite H rfl (fun H=>?_) (fun H=>?_)
  ·refine .A 4 [] rfl trivial ?_
   refine .R func11 results11 rfl ?_
   cases H
   exact .m rfl (.rfl' _)
  ·refine .A 15 [.v (.mp 2) ⟨[.row 26 [.d (slOf 3 Range.row v0in.seen),.d (slOf 12 Record.row v0in.open_),.d (slOf 4 Head.row v0in.heads)],.map (mEnc (fun n=>Value.int .i64 n) (fun x=>cI x) y1),.map (mEnc (fun n=>Value.int .i64 n) (fun x=>cI x) ([]:List (Int×Int)))],[]⟩,.i (v0in.seen.length:Int)] rfl ⟨s22.n rfl rfl,.e (v_makeMap) rfl⟩ ?_
   obtain ⟨n1,H⟩:=loop_some H
   refine .loop (ι:=Nat×(Int×(List (Int×Int)))) (fun ⟨_,v31l1,o2c0l1⟩=>[(3,.mp 1),(5,.mp 2),(29,.d (slOf 3 Range.row v0in.seen)),(30,.d (cI (v0in.seen.length:Int))),(31,.d (cI v31l1))]) (fun ⟨_,v31l1,o2c0l1⟩=>⟨[.row 26 [.d (slOf 3 Range.row v0in.seen),.d (slOf 12 Record.row v0in.open_),.d (slOf 4 Head.row v0in.heads)],.map (mEnc (fun n=>Value.int .i64 n) (fun x=>cI x) y1),.map (mEnc (fun n=>Value.int .i64 n) (fun x=>cI x) o2c0l1)],[]⟩) (fun p=>iter (fun s=>f_intake_Check_l1 v0in y1 s.1 s.2) p.1 p.2=some r) (·.1) (n1,(0,([]:List (Int×Int)))) H (.cons rfl (.rfl' _) (.cons rfl (.rfl' _) (.cons rfl (.rfl' _) (.cons rfl (.rfl' _) (.cons rfl (.rfl' _) (.nil)))))) rfl ?_
   rintro ⟨m1,v31l1,o2c0l1⟩ HI ih1
   obtain ⟨n1,q1,hm1,H,HK1⟩:=iter_succ HI
   clear HI
   replace H:f_intake_Check_l1 v0in y1 v31l1 o2c0l1=some q1:=H
   unfold f_intake_Check_l1 at H
   refine .A 5 [] rfl trivial ?_
   refine .ite H rfl (fun H=>?_) (fun H=>?_)
   ·obtain ⟨hk1,H⟩:=ck_some H
    obtain ⟨hk2,H⟩:=ck_some H
    obtain ⟨hk3,H⟩:=ck_some H
    obtain ⟨hk4,H⟩:=ck_some H
    refine .A 37 [.d (.ro (Range.row (nth v0in.seen v31l1.toNat))),.r 3,.i ((alook o2c0l1 ((nth v0in.seen v31l1.toNat).source)).getD 0),.i (((nth v0in.seen v31l1.toNat).to_) - ((nth v0in.seen v31l1.toNat).from_)),.i ((((nth v0in.seen v31l1.toNat).to_) - ((nth v0in.seen v31l1.toNat).from_))+1),.i (((alook o2c0l1 ((nth v0in.seen v31l1.toNat).source)).getD 0)+((((nth v0in.seen v31l1.toNat).to_) - ((nth v0in.seen v31l1.toNat).from_))+1)),.u ⟨[.row 26 [.d (slOf 3 Range.row v0in.seen),.d (slOf 12 Record.row v0in.open_),.d (slOf 4 Head.row v0in.heads)],.map (mEnc (fun n=>Value.int .i64 n) (fun x=>cI x) y1),.map (mEnc (fun n=>Value.int .i64 n) (fun x=>cI x) (aset o2c0l1 ((nth v0in.seen v31l1.toNat).source) (((alook o2c0l1 ((nth v0in.seen v31l1.toNat).source)).getD 0)+((((nth v0in.seen v31l1.toNat).to_) - ((nth v0in.seen v31l1.toNat).from_))+1)))),.row 65 [.d (cI ((nth v0in.seen v31l1.toNat).source)),.d (cI ((nth v0in.seen v31l1.toNat).from_)),.d (cI ((nth v0in.seen v31l1.toNat).to_))]],[]⟩,.i ((alook (aset o2c0l1 ((nth v0in.seen v31l1.toNat).source) (((alook o2c0l1 ((nth v0in.seen v31l1.toNat).source)).getD 0)+((((nth v0in.seen v31l1.toNat).to_) - ((nth v0in.seen v31l1.toNat).from_))+1))) ((nth v0in.seen v31l1.toNat).source)).getD 0),.i ((alook y1 ((nth v0in.seen v31l1.toNat).source)).getD 0)] rfl ⟨OpQ.g (q_lookupD (intKF underlying3) (l:=y1) (val:=(fun x=>cI x)) (k:=(nth v0in.seen v31l1.toNat).source) (a0:=0) underlying60 hi3 hz3 (show DLe (cI 0) (cI 0) from .rfl' _) rfl rfl rfl (fun _ _ _ h=>exKey h)),OpQ.g (q_lookupD (intKF underlying3) (l:=aset o2c0l1 ((nth v0in.seen v31l1.toNat).source) (((alook o2c0l1 ((nth v0in.seen v31l1.toNat).source)).getD 0)+((((nth v0in.seen v31l1.toNat).to_) - ((nth v0in.seen v31l1.toNat).from_))+1))) (val:=(fun x=>cI x)) (k:=(nth v0in.seen v31l1.toNat).source) (a0:=0) underlying60 hi3 hz3 (show DLe (cI 0) (cI 0) from .rfl' _) rfl rfl rfl (fun _ _ _ h=>exKey h)),.e (u_mapUpdateD (intKF underlying3) (l:=o2c0l1) (val:=(fun x=>cI x)) (k:=(nth v0in.seen v31l1.toNat).source) (a:=((alook o2c0l1 ((nth v0in.seen v31l1.toNat).source)).getD 0)+((((nth v0in.seen v31l1.toNat).to_) - ((nth v0in.seen v31l1.toNat).from_))+1)) underlying60 rfl rfl rfl (fun _ _ _ h=>exKey h) rfl (.rfl' _)) rfl,g_addI rfl rfl hk4,g_addI rfl rfl hk3,g_subI rfl rfl hk2,OpQ.g (q_lookupD (intKF underlying3) (l:=o2c0l1) (val:=(fun x=>cI x)) (k:=(nth v0in.seen v31l1.toNat).source) (a0:=0) underlying60 hi3 hz3 (show DLe (cI 0) (cI 0) from .rfl' _) rfl rfl rfl (fun _ _ _ h=>exKey h)),s22.ix rfl rfl rfl hk1⟩ ?_
    refine .ite H rfl (fun H=>?_) (fun H=>?_)
    ·refine .A 4 [] rfl trivial ?_
     refine .R func11 results11 rfl ?_
     cases H
     cases HK1
     exact .m rfl (.rfl' _)
    ·obtain ⟨hk5,H⟩:=ck_some H
     refine .A 6 [.i (v31l1+1)] rfl (g_addI rfl rfl hk5) ?_
     cases H
     exact .t 3 0 (ih1 (n1,(v31l1+1,aset o2c0l1 ((nth v0in.seen v31l1.toNat).source) (((alook o2c0l1 ((nth v0in.seen v31l1.toNat).source)).getD 0)+((((nth v0in.seen v31l1.toNat).to_) - ((nth v0in.seen v31l1.toNat).from_))+1)))) HK1 hm1) rfl rfl rfl rfl (okBoth rfl (okCons rfl (okCons okMap (okCons okMap rfl)))) hS rfl
   ·refine .A 5 [] rfl trivial ?_
    refine .R func11 results11 rfl ?_
    cases H
    cases HK1
    exact .m rfl (.rfl' _)
 ·replace H:=ifF hsp1 H
  obtain ⟨y4,hy4,H⟩:=bind_some' H
  refine .B 3 [] rfl trivial ?_
  refine .callF (en 51 rfl) rfl [] [] (x:=.tup [.d (.any),.d (cB false)]) (st':=⟨[.row 26 [.d (slOf 3 Range.row v0in.seen),.d (slOf 12 Record.row v0in.open_),.d (slOf 4 Head.row v0in.heads)]],[]⟩) rfl (c_g_intake_heads_v1 (hy4)) ⟨.rfl' _,trivial⟩ rfl rfl rfl rfl rfl rfl ?_
  obtain ⟨y5,hy5,H⟩:=bind_some' H
  obtain ⟨y6,hy6,H⟩:=bind_some' H
  refine .A 23 [.b y5,.b y6] rfl ⟨rfl,rfl,fun hg=>g_call (en 52 rfl) rfl rfl (c_f_intake_open (gcall_some hy6 hg)),rfl,rfl,rfl,fun hg=>g_call (en 53 rfl) rfl rfl (c_f_dedup_Check (gcall_some hy5 hg)),rfl,rfl⟩ ?_
  refine .cond rfl (fun hc=>?_) (fun hc=>absurd hc (by simp))
  clear hc
  refine .A 4 [] rfl trivial ?_
  refine .R func11 results11 rfl ?_
  cases H
  exact .m rfl (.rfl' _)
theorem c_f_w16_awake {r:Bool} (H:f_w16_awake=some r):ACall prog 10 [] (·=cB r):=by
 obtain ⟨i26,hi26,hz26,hs26,hb26⟩:=in_26
 obtain ⟨i34,hi34,hz34,hs34,hb34⟩:=in_34
 obtain ⟨i47,hi47,hz47,hs47,hb47⟩:=in_47
 obtain ⟨i49,hi49,hz49,hs49,hb49⟩:=in_49
 refine ACall.enter' func10 rfl ntmps10 rfl fun S hS=>?_
 unfold f_w16_awake at H
 refine .A 31 [.d (.agg (Record.row (⟨1,1,2,([49]:List UInt8),([50]:List UInt8),0,1,0,0,false,0,false⟩:Record))),.r 0,.r 1,.d (slOf 12 Record.row ([(⟨1,1,2,([49]:List UInt8),([50]:List UInt8),0,1,0,0,false,0,false⟩:Record),(⟨1,2,2,([49]:List UInt8),([50]:List UInt8),0,1,0,0,false,0,false⟩:Record)]:List Record)),.d (.agg (Batch.row (⟨1,1,1,([(⟨1,1,2,([49]:List UInt8),([50]:List UInt8),0,1,0,0,false,0,false⟩:Record),(⟨1,2,2,([49]:List UInt8),([50]:List UInt8),0,1,0,0,false,0,false⟩:Record)]:List Record)⟩:Batch))),.r 2] rfl ⟨OpQ.g (q_buildP pl_34 hi34 hz34 rfl rfl),g_buildSliceN (n:=2) (rows:=([(⟨1,1,2,([49]:List UInt8),([50]:List UInt8),0,1,0,0,false,0,false⟩:Record),(⟨1,2,2,([49]:List UInt8),([50]:List UInt8),0,1,0,0,false,0,false⟩:Record)]:List Record).map Record.row) underlying23 hi49 hs49 hz49 rfl rfl rfl rfl rfl,OpQ.g (q_buildP pl_49 hi49 hz49 rfl rfl)⟩ ?_
 obtain ⟨y1,hy1,H⟩:=bind_some' H
 obtain ⟨y2,hy2,H⟩:=bind_some' H
 refine .orders2 13 9 10 [⟨[.row 49 [.d (cI 1),.d (cI 1),.d (cI 2),.d (cS ([49]:List UInt8)),.d (cS ([50]:List UInt8)),.d (cI 0),.d (cI 1),.d (cI 0),.d (cI 0),.d (cB false),.d (cI 0),.d (cB false)],.row 49 [.d (cI 1),.d (cI 2),.d (cI 2),.d (cS ([49]:List UInt8)),.d (cS ([50]:List UInt8)),.d (cI 0),.d (cI 1),.d (cI 0),.d (cI 0),.d (cB false),.d (cI 0),.d (cB false)],.row 34 [.d (cI 1),.d (cI 1),.d (cI 1),.d (slOf 12 Record.row ([(⟨1,1,2,([49]:List UInt8),([50]:List UInt8),0,1,0,0,false,0,false⟩:Record),(⟨1,2,2,([49]:List UInt8),([50]:List UInt8),0,1,0,0,false,0,false⟩:Record)]:List Record))]],[]⟩,⟨[.row 49 [.d (cI 1),.d (cI 1),.d (cI 2),.d (cS ([49]:List UInt8)),.d (cS ([50]:List UInt8)),.d (cI 0),.d (cI 1),.d (cI 0),.d (cI 0),.d (cB false),.d (cI 0),.d (cB false)],.row 49 [.d (cI 1),.d (cI 2),.d (cI 2),.d (cS ([49]:List UInt8)),.d (cS ([50]:List UInt8)),.d (cI 0),.d (cI 1),.d (cI 0),.d (cI 0),.d (cB false),.d (cI 0),.d (cB false)],.row 34 [.d (cI 1),.d (cI 1),.d (cI 1),.d (slOf 12 Record.row ([(⟨1,1,2,([49]:List UInt8),([50]:List UInt8),0,1,0,0,false,0,false⟩:Record),(⟨1,2,2,([49]:List UInt8),([50]:List UInt8),0,1,0,0,false,0,false⟩:Record)]:List Record))],.row 26 [.d (nilD),.d (nilD),.d (nilD)]],[]⟩,⟨[.row 49 [.d (cI 1),.d (cI 1),.d (cI 2),.d (cS ([49]:List UInt8)),.d (cS ([50]:List UInt8)),.d (cI 0),.d (cI 1),.d (cI 0),.d (cI 0),.d (cB false),.d (cI 0),.d (cB false)],.row 49 [.d (cI 1),.d (cI 2),.d (cI 2),.d (cS ([49]:List UInt8)),.d (cS ([50]:List UInt8)),.d (cI 0),.d (cI 1),.d (cI 0),.d (cI 0),.d (cB false),.d (cI 0),.d (cB false)],.row 34 [.d (cI 1),.d (cI 1),.d (cI 1),.d (slOf 12 Record.row ([(⟨1,1,2,([49]:List UInt8),([50]:List UInt8),0,1,0,0,false,0,false⟩:Record),(⟨1,2,2,([49]:List UInt8),([50]:List UInt8),0,1,0,0,false,0,false⟩:Record)]:List Record))],.row 26 [.d (slOf 3 Range.row y2.1.seen),.d (slOf 12 Record.row y2.1.open_),.d (slOf 4 Head.row y2.1.heads)]],[]⟩] hMix (by kernel_rfl) (by decide) (by decide) (by kernel_rfl) rfl ?_
 show XOps _ _ _ _ _ _ _ _ _ _ (_ :: _) _ _
 refine .g (x:=.d (.agg (Intake.row (⟨([]:List Range),([]:List Record),([]:List Head)⟩:Intake)))) 0 1 ⟨OpQ.g (OpQ.le (q_buildP pl_26 hi26 hz26 rfl rfl) (EVle.d (.agg ⟨.nil 3,.nil 12,.nil 4,trivial⟩))),OpQ.g (OpQ.le (q_buildP pl_26 hi26 hz26 rfl rfl) (EVle.d (.agg ⟨.nil 3,.nil 12,.nil 4,trivial⟩))),trivial⟩ rfl (by kernel_rfl) rfl ?_
 refine .g (x:=.d (.agg (Batch.row (⟨1,1,1,([(⟨1,1,2,([49]:List UInt8),([50]:List UInt8),0,1,0,0,false,0,false⟩:Record),(⟨1,2,2,([49]:List UInt8),([50]:List UInt8),0,1,0,0,false,0,false⟩:Record)]:List Record)⟩:Batch)))) 0 1 ⟨OpQ.g (q_loadOA one_34 sz_34 rfl rfl (Nat.le_of_ble_eq_true rfl) rfl),OpQ.g (q_loadOA one_34 sz_34 rfl rfl (Nat.le_of_ble_eq_true rfl) rfl),trivial⟩ rfl (by kernel_rfl) rfl ?_
 refine .g (x:=.d (.agg (Window.row y1))) 0 1 ⟨(g_call (en 54 rfl) rfl rfl (c_f_w16_always (hy1))),(g_call (en 54 rfl) rfl rfl (c_f_w16_always (hy1))),trivial⟩ rfl (by kernel_rfl) rfl ?_
 refine .g (x:=.d (.tup [.agg (Intake.row y2.1),slOf 12 Record.row y2.2.1,slOf 4 Reject.row y2.2.2.1,cI y2.2.2.2])) 0 1 ⟨(g_call (en 55 rfl) rfl rfl (c_f_intake_Accept (hy2))),(g_call (en 55 rfl) rfl rfl (c_f_intake_Accept (hy2))),trivial⟩ rfl (by kernel_rfl) rfl ?_
 refine .g (x:=.d (.tup [.agg (Intake.row y2.1),slOf 12 Record.row y2.2.1,slOf 4 Reject.row y2.2.2.1,cI y2.2.2.2])) 0 1 ⟨OpQ.g (q_move rfl),OpQ.g (q_move rfl),trivial⟩ rfl (by kernel_rfl) rfl ?_
 refine .g (x:=.d (.agg (Intake.row y2.1))) 0 1 ⟨OpQ.g (q_extract rfl rfl),OpQ.g (q_extract rfl rfl),trivial⟩ rfl (by kernel_rfl) rfl ?_
 refine .g (x:=.d (slOf 12 Record.row y2.2.1)) 0 2 ⟨OpQ.g (q_extract rfl rfl),OpQ.g (q_extract rfl rfl),OpQ.g (q_extract rfl rfl),trivial⟩ rfl (by kernel_rfl) rfl ?_
 refine .g (x:=.d (slOf 4 Reject.row y2.2.2.1)) 0 2 ⟨OpQ.g (q_extract rfl rfl),OpQ.g (q_extract rfl rfl),OpQ.g (q_extract rfl rfl),trivial⟩ rfl (by kernel_rfl) rfl ?_
 refine .g (x:=.d (cI y2.2.2.2)) 0 2 ⟨OpQ.g (q_extract rfl rfl),OpQ.g (q_extract rfl rfl),OpQ.g (q_extract rfl rfl),trivial⟩ rfl (by kernel_rfl) rfl ?_
 refine .v (x:=.ref 3 0) 0 (v_alloc zr_26 rfl) rfl rfl rfl rfl ?_
 refine .u 1 (u_store rfl rfl rfl rfl (Nat.le_of_ble_eq_true rfl) sz_26) rfl rfl rfl rfl ?_
 refine .g (x:=.d (slOf 12 Record.row y2.2.1)) 2 2 ⟨OpQ.g (q_assign rfl),trivial⟩ rfl (by kernel_rfl) rfl ?_
 refine .g (x:=.d (slOf 4 Reject.row y2.2.2.1)) 2 2 ⟨OpQ.g (q_assign rfl),trivial⟩ rfl (by kernel_rfl) rfl ?_
 refine .nil rfl ?_
 show AOps _ _ _ _ _ _ (_ :: _) _ _ _
 refine .A 3 [] rfl trivial ?_
 obtain ⟨y3,hy3,H⟩:=bind_some' H
 obtain ⟨y4,hy4,H⟩:=bind_some' H
 refine .orders2 13 9 10 [⟨[.row 49 [.d (cI 1),.d (cI 1),.d (cI 2),.d (cS ([49]:List UInt8)),.d (cS ([50]:List UInt8)),.d (cI 0),.d (cI 1),.d (cI 0),.d (cI 0),.d (cB false),.d (cI 0),.d (cB false)],.row 49 [.d (cI 1),.d (cI 2),.d (cI 2),.d (cS ([49]:List UInt8)),.d (cS ([50]:List UInt8)),.d (cI 0),.d (cI 1),.d (cI 0),.d (cI 0),.d (cB false),.d (cI 0),.d (cB false)],.row 34 [.d (cI 1),.d (cI 1),.d (cI 1),.d (slOf 12 Record.row ([(⟨1,1,2,([49]:List UInt8),([50]:List UInt8),0,1,0,0,false,0,false⟩:Record),(⟨1,2,2,([49]:List UInt8),([50]:List UInt8),0,1,0,0,false,0,false⟩:Record)]:List Record))],.row 26 [.d (slOf 3 Range.row y2.1.seen),.d (slOf 12 Record.row y2.1.open_),.d (slOf 4 Head.row y2.1.heads)]],[]⟩,⟨[.row 49 [.d (cI 1),.d (cI 1),.d (cI 2),.d (cS ([49]:List UInt8)),.d (cS ([50]:List UInt8)),.d (cI 0),.d (cI 1),.d (cI 0),.d (cI 0),.d (cB false),.d (cI 0),.d (cB false)],.row 49 [.d (cI 1),.d (cI 2),.d (cI 2),.d (cS ([49]:List UInt8)),.d (cS ([50]:List UInt8)),.d (cI 0),.d (cI 1),.d (cI 0),.d (cI 0),.d (cB false),.d (cI 0),.d (cB false)],.row 34 [.d (cI 1),.d (cI 1),.d (cI 1),.d (slOf 12 Record.row ([(⟨1,1,2,([49]:List UInt8),([50]:List UInt8),0,1,0,0,false,0,false⟩:Record),(⟨1,2,2,([49]:List UInt8),([50]:List UInt8),0,1,0,0,false,0,false⟩:Record)]:List Record))],.row 26 [.d (slOf 3 Range.row y2.1.seen),.d (slOf 12 Record.row y2.1.open_),.d (slOf 4 Head.row y2.1.heads)],.row 26 [.d (nilD),.d (nilD),.d (nilD)]],[]⟩,⟨[.row 49 [.d (cI 1),.d (cI 1),.d (cI 2),.d (cS ([49]:List UInt8)),.d (cS ([50]:List UInt8)),.d (cI 0),.d (cI 1),.d (cI 0),.d (cI 0),.d (cB false),.d (cI 0),.d (cB false)],.row 49 [.d (cI 1),.d (cI 2),.d (cI 2),.d (cS ([49]:List UInt8)),.d (cS ([50]:List UInt8)),.d (cI 0),.d (cI 1),.d (cI 0),.d (cI 0),.d (cB false),.d (cI 0),.d (cB false)],.row 34 [.d (cI 1),.d (cI 1),.d (cI 1),.d (slOf 12 Record.row ([(⟨1,1,2,([49]:List UInt8),([50]:List UInt8),0,1,0,0,false,0,false⟩:Record),(⟨1,2,2,([49]:List UInt8),([50]:List UInt8),0,1,0,0,false,0,false⟩:Record)]:List Record))],.row 26 [.d (slOf 3 Range.row y2.1.seen),.d (slOf 12 Record.row y2.1.open_),.d (slOf 4 Head.row y2.1.heads)],.row 26 [.d (slOf 3 Range.row y4.1.seen),.d (slOf 12 Record.row y4.1.open_),.d (slOf 4 Head.row y4.1.heads)]],[]⟩] hMix (by kernel_rfl) (by decide) (by decide) (by kernel_rfl) rfl ?_
 show XOps _ _ _ _ _ _ _ _ _ _ (_ :: _) _ _
 refine .g (x:=.d (.agg (Intake.row y2.1))) 0 1 ⟨OpQ.g (q_loadOA one_26 sz_26 rfl rfl (Nat.le_of_ble_eq_true rfl) rfl),OpQ.g (q_loadOA one_26 sz_26 rfl rfl (Nat.le_of_ble_eq_true rfl) rfl),trivial⟩ rfl (by kernel_rfl) rfl ?_
 refine .g (x:=.d (.agg (Batch.row (⟨1,1,1,([(⟨1,1,2,([49]:List UInt8),([50]:List UInt8),0,1,0,0,false,0,false⟩:Record),(⟨1,2,2,([49]:List UInt8),([50]:List UInt8),0,1,0,0,false,0,false⟩:Record)]:List Record)⟩:Batch)))) 0 1 ⟨OpQ.g (q_loadOA one_34 sz_34 rfl rfl (Nat.le_of_ble_eq_true rfl) rfl),OpQ.g (q_loadOA one_34 sz_34 rfl rfl (Nat.le_of_ble_eq_true rfl) rfl),trivial⟩ rfl (by kernel_rfl) rfl ?_
 refine .g (x:=.d (.agg (Window.row y3))) 0 1 ⟨(g_call (en 54 rfl) rfl rfl (c_f_w16_always (hy3))),(g_call (en 54 rfl) rfl rfl (c_f_w16_always (hy3))),trivial⟩ rfl (by kernel_rfl) rfl ?_
 refine .g (x:=.d (.tup [.agg (Intake.row y4.1),slOf 12 Record.row y4.2.1,slOf 4 Reject.row y4.2.2.1,cI y4.2.2.2])) 0 1 ⟨(g_call (en 55 rfl) rfl rfl (c_f_intake_Accept (hy4))),(g_call (en 55 rfl) rfl rfl (c_f_intake_Accept (hy4))),trivial⟩ rfl (by kernel_rfl) rfl ?_
 refine .g (x:=.d (.tup [.agg (Intake.row y4.1),slOf 12 Record.row y4.2.1,slOf 4 Reject.row y4.2.2.1,cI y4.2.2.2])) 0 1 ⟨OpQ.g (q_move rfl),OpQ.g (q_move rfl),trivial⟩ rfl (by kernel_rfl) rfl ?_
 refine .g (x:=.d (.agg (Intake.row y4.1))) 0 1 ⟨OpQ.g (q_extract rfl rfl),OpQ.g (q_extract rfl rfl),trivial⟩ rfl (by kernel_rfl) rfl ?_
 refine .g (x:=.d (slOf 12 Record.row y4.2.1)) 0 2 ⟨OpQ.g (q_extract rfl rfl),OpQ.g (q_extract rfl rfl),OpQ.g (q_extract rfl rfl),trivial⟩ rfl (by kernel_rfl) rfl ?_
 refine .g (x:=.d (slOf 4 Reject.row y4.2.2.1)) 0 2 ⟨OpQ.g (q_extract rfl rfl),OpQ.g (q_extract rfl rfl),OpQ.g (q_extract rfl rfl),trivial⟩ rfl (by kernel_rfl) rfl ?_
 refine .g (x:=.d (cI y4.2.2.2)) 0 2 ⟨OpQ.g (q_extract rfl rfl),OpQ.g (q_extract rfl rfl),OpQ.g (q_extract rfl rfl),trivial⟩ rfl (by kernel_rfl) rfl ?_
 refine .v (x:=.ref 4 0) 0 (v_alloc zr_26 rfl) rfl rfl rfl rfl ?_
 refine .u 1 (u_store rfl rfl rfl rfl (Nat.le_of_ble_eq_true rfl) sz_26) rfl rfl rfl rfl ?_
 refine .g (x:=.d (slOf 12 Record.row y4.2.1)) 2 2 ⟨OpQ.g (q_assign rfl),trivial⟩ rfl (by kernel_rfl) rfl ?_
 refine .g (x:=.d (slOf 4 Reject.row y4.2.2.1)) 2 2 ⟨OpQ.g (q_assign rfl),trivial⟩ rfl (by kernel_rfl) rfl ?_
 refine .nil rfl ?_
 show AOps _ _ _ _ _ _ (_ :: _) _ _ _
 refine .A 8 [] rfl trivial ?_
 obtain ⟨y5,hy5,H⟩:=bind_some' H
 obtain ⟨y6,hy6,H⟩:=bind_some' H
 refine .orders2 13 9 10 [⟨[.row 49 [.d (cI 1),.d (cI 1),.d (cI 2),.d (cS ([49]:List UInt8)),.d (cS ([50]:List UInt8)),.d (cI 0),.d (cI 1),.d (cI 0),.d (cI 0),.d (cB false),.d (cI 0),.d (cB false)],.row 49 [.d (cI 1),.d (cI 2),.d (cI 2),.d (cS ([49]:List UInt8)),.d (cS ([50]:List UInt8)),.d (cI 0),.d (cI 1),.d (cI 0),.d (cI 0),.d (cB false),.d (cI 0),.d (cB false)],.row 34 [.d (cI 1),.d (cI 2),.d (cI 1),.d (slOf 12 Record.row ([(⟨1,1,2,([49]:List UInt8),([50]:List UInt8),0,1,0,0,false,0,false⟩:Record),(⟨1,2,2,([49]:List UInt8),([50]:List UInt8),0,1,0,0,false,0,false⟩:Record)]:List Record))],.row 26 [.d (slOf 3 Range.row y2.1.seen),.d (slOf 12 Record.row y2.1.open_),.d (slOf 4 Head.row y2.1.heads)],.row 26 [.d (slOf 3 Range.row y4.1.seen),.d (slOf 12 Record.row y4.1.open_),.d (slOf 4 Head.row y4.1.heads)]],[]⟩,⟨[.row 49 [.d (cI 1),.d (cI 1),.d (cI 2),.d (cS ([49]:List UInt8)),.d (cS ([50]:List UInt8)),.d (cI 0),.d (cI 1),.d (cI 0),.d (cI 0),.d (cB false),.d (cI 0),.d (cB false)],.row 49 [.d (cI 1),.d (cI 2),.d (cI 2),.d (cS ([49]:List UInt8)),.d (cS ([50]:List UInt8)),.d (cI 0),.d (cI 1),.d (cI 0),.d (cI 0),.d (cB false),.d (cI 0),.d (cB false)],.row 34 [.d (cI 1),.d (cI 2),.d (cI 1),.d (slOf 12 Record.row ([(⟨1,1,2,([49]:List UInt8),([50]:List UInt8),0,1,0,0,false,0,false⟩:Record),(⟨1,2,2,([49]:List UInt8),([50]:List UInt8),0,1,0,0,false,0,false⟩:Record)]:List Record))],.row 26 [.d (slOf 3 Range.row y2.1.seen),.d (slOf 12 Record.row y2.1.open_),.d (slOf 4 Head.row y2.1.heads)],.row 26 [.d (slOf 3 Range.row y4.1.seen),.d (slOf 12 Record.row y4.1.open_),.d (slOf 4 Head.row y4.1.heads)],.row 26 [.d (nilD),.d (nilD),.d (nilD)]],[]⟩,⟨[.row 49 [.d (cI 1),.d (cI 1),.d (cI 2),.d (cS ([49]:List UInt8)),.d (cS ([50]:List UInt8)),.d (cI 0),.d (cI 1),.d (cI 0),.d (cI 0),.d (cB false),.d (cI 0),.d (cB false)],.row 49 [.d (cI 1),.d (cI 2),.d (cI 2),.d (cS ([49]:List UInt8)),.d (cS ([50]:List UInt8)),.d (cI 0),.d (cI 1),.d (cI 0),.d (cI 0),.d (cB false),.d (cI 0),.d (cB false)],.row 34 [.d (cI 1),.d (cI 2),.d (cI 1),.d (slOf 12 Record.row ([(⟨1,1,2,([49]:List UInt8),([50]:List UInt8),0,1,0,0,false,0,false⟩:Record),(⟨1,2,2,([49]:List UInt8),([50]:List UInt8),0,1,0,0,false,0,false⟩:Record)]:List Record))],.row 26 [.d (slOf 3 Range.row y2.1.seen),.d (slOf 12 Record.row y2.1.open_),.d (slOf 4 Head.row y2.1.heads)],.row 26 [.d (slOf 3 Range.row y4.1.seen),.d (slOf 12 Record.row y4.1.open_),.d (slOf 4 Head.row y4.1.heads)],.row 26 [.d (slOf 3 Range.row y6.1.seen),.d (slOf 12 Record.row y6.1.open_),.d (slOf 4 Head.row y6.1.heads)]],[]⟩] hMix (by kernel_rfl) (by decide) (by decide) (by kernel_rfl) rfl ?_
 show XOps _ _ _ _ _ _ _ _ _ _ (_ :: _) _ _
 refine .g (x:=.d (.agg (Intake.row (⟨([]:List Range),([]:List Record),([]:List Head)⟩:Intake)))) 0 1 ⟨OpQ.g (OpQ.le (q_buildP pl_26 hi26 hz26 rfl rfl) (EVle.d (.agg ⟨.nil 3,.nil 12,.nil 4,trivial⟩))),OpQ.g (OpQ.le (q_buildP pl_26 hi26 hz26 rfl rfl) (EVle.d (.agg ⟨.nil 3,.nil 12,.nil 4,trivial⟩))),trivial⟩ rfl (by kernel_rfl) rfl ?_
 refine .g (x:=.d (.agg (Batch.row (⟨1,2,1,([(⟨1,1,2,([49]:List UInt8),([50]:List UInt8),0,1,0,0,false,0,false⟩:Record),(⟨1,2,2,([49]:List UInt8),([50]:List UInt8),0,1,0,0,false,0,false⟩:Record)]:List Record)⟩:Batch)))) 0 1 ⟨OpQ.g (q_loadOA one_34 sz_34 rfl rfl (Nat.le_of_ble_eq_true rfl) rfl),OpQ.g (q_loadOA one_34 sz_34 rfl rfl (Nat.le_of_ble_eq_true rfl) rfl),trivial⟩ rfl (by kernel_rfl) rfl ?_
 refine .g (x:=.d (.agg (Window.row y5))) 0 1 ⟨(g_call (en 54 rfl) rfl rfl (c_f_w16_always (hy5))),(g_call (en 54 rfl) rfl rfl (c_f_w16_always (hy5))),trivial⟩ rfl (by kernel_rfl) rfl ?_
 refine .g (x:=.d (.tup [.agg (Intake.row y6.1),slOf 12 Record.row y6.2.1,slOf 4 Reject.row y6.2.2.1,cI y6.2.2.2])) 0 1 ⟨(g_call (en 55 rfl) rfl rfl (c_f_intake_Accept (hy6))),(g_call (en 55 rfl) rfl rfl (c_f_intake_Accept (hy6))),trivial⟩ rfl (by kernel_rfl) rfl ?_
 refine .g (x:=.d (.tup [.agg (Intake.row y6.1),slOf 12 Record.row y6.2.1,slOf 4 Reject.row y6.2.2.1,cI y6.2.2.2])) 0 1 ⟨OpQ.g (q_move rfl),OpQ.g (q_move rfl),trivial⟩ rfl (by kernel_rfl) rfl ?_
 refine .g (x:=.d (.agg (Intake.row y6.1))) 0 1 ⟨OpQ.g (q_extract rfl rfl),OpQ.g (q_extract rfl rfl),trivial⟩ rfl (by kernel_rfl) rfl ?_
 refine .g (x:=.d (slOf 12 Record.row y6.2.1)) 0 2 ⟨OpQ.g (q_extract rfl rfl),OpQ.g (q_extract rfl rfl),OpQ.g (q_extract rfl rfl),trivial⟩ rfl (by kernel_rfl) rfl ?_
 refine .g (x:=.d (slOf 4 Reject.row y6.2.2.1)) 0 2 ⟨OpQ.g (q_extract rfl rfl),OpQ.g (q_extract rfl rfl),OpQ.g (q_extract rfl rfl),trivial⟩ rfl (by kernel_rfl) rfl ?_
 refine .g (x:=.d (cI y6.2.2.2)) 0 2 ⟨OpQ.g (q_extract rfl rfl),OpQ.g (q_extract rfl rfl),OpQ.g (q_extract rfl rfl),trivial⟩ rfl (by kernel_rfl) rfl ?_
 refine .v (x:=.ref 5 0) 0 (v_alloc zr_26 rfl) rfl rfl rfl rfl ?_
 refine .u 1 (u_store rfl rfl rfl rfl (Nat.le_of_ble_eq_true rfl) sz_26) rfl rfl rfl rfl ?_
 refine .g (x:=.d (slOf 12 Record.row y6.2.1)) 2 2 ⟨OpQ.g (q_assign rfl),trivial⟩ rfl (by kernel_rfl) rfl ?_
 refine .g (x:=.d (slOf 4 Reject.row y6.2.2.1)) 2 2 ⟨OpQ.g (q_assign rfl),trivial⟩ rfl (by kernel_rfl) rfl ?_
 refine .nil rfl ?_
 show AOps _ _ _ _ _ _ (_ :: _) _ _ _
 refine .A 3 [] rfl trivial ?_
 obtain ⟨y7,hy7,H⟩:=bind_some' H
 obtain ⟨y8,hy8,H⟩:=bind_some' H
 refine .orders2 13 9 10 [⟨[.row 49 [.d (cI 1),.d (cI 1),.d (cI 2),.d (cS ([49]:List UInt8)),.d (cS ([50]:List UInt8)),.d (cI 0),.d (cI 1),.d (cI 0),.d (cI 0),.d (cB false),.d (cI 0),.d (cB false)],.row 49 [.d (cI 1),.d (cI 2),.d (cI 2),.d (cS ([49]:List UInt8)),.d (cS ([50]:List UInt8)),.d (cI 0),.d (cI 1),.d (cI 0),.d (cI 0),.d (cB false),.d (cI 0),.d (cB false)],.row 34 [.d (cI 1),.d (cI 2),.d (cI 1),.d (slOf 12 Record.row ([(⟨1,1,2,([49]:List UInt8),([50]:List UInt8),0,1,0,0,false,0,false⟩:Record),(⟨1,2,2,([49]:List UInt8),([50]:List UInt8),0,1,0,0,false,0,false⟩:Record)]:List Record))],.row 26 [.d (slOf 3 Range.row y2.1.seen),.d (slOf 12 Record.row y2.1.open_),.d (slOf 4 Head.row y2.1.heads)],.row 26 [.d (slOf 3 Range.row y4.1.seen),.d (slOf 12 Record.row y4.1.open_),.d (slOf 4 Head.row y4.1.heads)],.row 26 [.d (slOf 3 Range.row y6.1.seen),.d (slOf 12 Record.row y6.1.open_),.d (slOf 4 Head.row y6.1.heads)]],[]⟩,⟨[.row 49 [.d (cI 1),.d (cI 1),.d (cI 2),.d (cS ([49]:List UInt8)),.d (cS ([50]:List UInt8)),.d (cI 0),.d (cI 1),.d (cI 0),.d (cI 0),.d (cB false),.d (cI 0),.d (cB false)],.row 49 [.d (cI 1),.d (cI 2),.d (cI 2),.d (cS ([49]:List UInt8)),.d (cS ([50]:List UInt8)),.d (cI 0),.d (cI 1),.d (cI 0),.d (cI 0),.d (cB false),.d (cI 0),.d (cB false)],.row 34 [.d (cI 1),.d (cI 2),.d (cI 1),.d (slOf 12 Record.row ([(⟨1,1,2,([49]:List UInt8),([50]:List UInt8),0,1,0,0,false,0,false⟩:Record),(⟨1,2,2,([49]:List UInt8),([50]:List UInt8),0,1,0,0,false,0,false⟩:Record)]:List Record))],.row 26 [.d (slOf 3 Range.row y2.1.seen),.d (slOf 12 Record.row y2.1.open_),.d (slOf 4 Head.row y2.1.heads)],.row 26 [.d (slOf 3 Range.row y4.1.seen),.d (slOf 12 Record.row y4.1.open_),.d (slOf 4 Head.row y4.1.heads)],.row 26 [.d (slOf 3 Range.row y6.1.seen),.d (slOf 12 Record.row y6.1.open_),.d (slOf 4 Head.row y6.1.heads)],.row 26 [.d (nilD),.d (nilD),.d (nilD)]],[]⟩,⟨[.row 49 [.d (cI 1),.d (cI 1),.d (cI 2),.d (cS ([49]:List UInt8)),.d (cS ([50]:List UInt8)),.d (cI 0),.d (cI 1),.d (cI 0),.d (cI 0),.d (cB false),.d (cI 0),.d (cB false)],.row 49 [.d (cI 1),.d (cI 2),.d (cI 2),.d (cS ([49]:List UInt8)),.d (cS ([50]:List UInt8)),.d (cI 0),.d (cI 1),.d (cI 0),.d (cI 0),.d (cB false),.d (cI 0),.d (cB false)],.row 34 [.d (cI 1),.d (cI 2),.d (cI 1),.d (slOf 12 Record.row ([(⟨1,1,2,([49]:List UInt8),([50]:List UInt8),0,1,0,0,false,0,false⟩:Record),(⟨1,2,2,([49]:List UInt8),([50]:List UInt8),0,1,0,0,false,0,false⟩:Record)]:List Record))],.row 26 [.d (slOf 3 Range.row y2.1.seen),.d (slOf 12 Record.row y2.1.open_),.d (slOf 4 Head.row y2.1.heads)],.row 26 [.d (slOf 3 Range.row y4.1.seen),.d (slOf 12 Record.row y4.1.open_),.d (slOf 4 Head.row y4.1.heads)],.row 26 [.d (slOf 3 Range.row y6.1.seen),.d (slOf 12 Record.row y6.1.open_),.d (slOf 4 Head.row y6.1.heads)],.row 26 [.d (slOf 3 Range.row y8.1.seen),.d (slOf 12 Record.row y8.1.open_),.d (slOf 4 Head.row y8.1.heads)]],[]⟩] hMix (by kernel_rfl) (by decide) (by decide) (by kernel_rfl) rfl ?_
 show XOps _ _ _ _ _ _ _ _ _ _ (_ :: _) _ _
 refine .g (x:=.d (.agg (Intake.row y2.1))) 0 1 ⟨OpQ.g (q_loadOA one_26 sz_26 rfl rfl (Nat.le_of_ble_eq_true rfl) rfl),OpQ.g (q_loadOA one_26 sz_26 rfl rfl (Nat.le_of_ble_eq_true rfl) rfl),trivial⟩ rfl (by kernel_rfl) rfl ?_
 refine .g (x:=.d (.agg (Batch.row (⟨1,2,1,([(⟨1,1,2,([49]:List UInt8),([50]:List UInt8),0,1,0,0,false,0,false⟩:Record),(⟨1,2,2,([49]:List UInt8),([50]:List UInt8),0,1,0,0,false,0,false⟩:Record)]:List Record)⟩:Batch)))) 0 1 ⟨OpQ.g (q_loadOA one_34 sz_34 rfl rfl (Nat.le_of_ble_eq_true rfl) rfl),OpQ.g (q_loadOA one_34 sz_34 rfl rfl (Nat.le_of_ble_eq_true rfl) rfl),trivial⟩ rfl (by kernel_rfl) rfl ?_
 refine .g (x:=.d (.agg (Window.row y7))) 0 1 ⟨(g_call (en 54 rfl) rfl rfl (c_f_w16_always (hy7))),(g_call (en 54 rfl) rfl rfl (c_f_w16_always (hy7))),trivial⟩ rfl (by kernel_rfl) rfl ?_
 refine .g (x:=.d (.tup [.agg (Intake.row y8.1),slOf 12 Record.row y8.2.1,slOf 4 Reject.row y8.2.2.1,cI y8.2.2.2])) 0 1 ⟨(g_call (en 55 rfl) rfl rfl (c_f_intake_Accept (hy8))),(g_call (en 55 rfl) rfl rfl (c_f_intake_Accept (hy8))),trivial⟩ rfl (by kernel_rfl) rfl ?_
 refine .g (x:=.d (.tup [.agg (Intake.row y8.1),slOf 12 Record.row y8.2.1,slOf 4 Reject.row y8.2.2.1,cI y8.2.2.2])) 0 1 ⟨OpQ.g (q_move rfl),OpQ.g (q_move rfl),trivial⟩ rfl (by kernel_rfl) rfl ?_
 refine .g (x:=.d (.agg (Intake.row y8.1))) 0 1 ⟨OpQ.g (q_extract rfl rfl),OpQ.g (q_extract rfl rfl),trivial⟩ rfl (by kernel_rfl) rfl ?_
 refine .g (x:=.d (slOf 12 Record.row y8.2.1)) 0 2 ⟨OpQ.g (q_extract rfl rfl),OpQ.g (q_extract rfl rfl),OpQ.g (q_extract rfl rfl),trivial⟩ rfl (by kernel_rfl) rfl ?_
 refine .g (x:=.d (slOf 4 Reject.row y8.2.2.1)) 0 2 ⟨OpQ.g (q_extract rfl rfl),OpQ.g (q_extract rfl rfl),OpQ.g (q_extract rfl rfl),trivial⟩ rfl (by kernel_rfl) rfl ?_
 refine .g (x:=.d (cI y8.2.2.2)) 0 2 ⟨OpQ.g (q_extract rfl rfl),OpQ.g (q_extract rfl rfl),OpQ.g (q_extract rfl rfl),trivial⟩ rfl (by kernel_rfl) rfl ?_
 refine .v (x:=.ref 6 0) 0 (v_alloc zr_26 rfl) rfl rfl rfl rfl ?_
 refine .u 1 (u_store rfl rfl rfl rfl (Nat.le_of_ble_eq_true rfl) sz_26) rfl rfl rfl rfl ?_
 refine .g (x:=.d (slOf 12 Record.row y8.2.1)) 2 2 ⟨OpQ.g (q_assign rfl),trivial⟩ rfl (by kernel_rfl) rfl ?_
 refine .g (x:=.d (slOf 4 Reject.row y8.2.2.1)) 2 2 ⟨OpQ.g (q_assign rfl),trivial⟩ rfl (by kernel_rfl) rfl ?_
 refine .nil rfl ?_
 show AOps _ _ _ _ _ _ (_ :: _) _ _ _
 refine .A 40 [.i (y2.2.1.length:Int),.i (y2.2.2.1.length:Int),.i (y8.2.1.length:Int),.i (y8.2.2.1.length:Int)] rfl ⟨rfl,rfl,fun hg=>s38.n rfl rfl,rfl,rfl,rfl,fun hg=>s23.n rfl rfl,rfl,rfl,rfl,fun hg=>s38.n rfl rfl,rfl,rfl,rfl,fun hg=>s23.n rfl rfl,rfl,rfl,rfl,rfl,rfl,rfl,rfl⟩ ?_
 refine .ite H rfl (fun H=>?_) (fun H=>?_)
 ·refine .A 4 [] rfl trivial ?_
  refine .R func10 results10 rfl ?_
  cases H
  exact .m rfl (.rfl' _)
 ·obtain ⟨y9,hy9,H⟩:=bind_some' H
  obtain ⟨y10,hy10,H⟩:=bind_some' H
  obtain ⟨y11,hy11,H⟩:=bind_some' H
  obtain ⟨hk1,H⟩:=ck_some H
  refine .A 24 [.i y9,.i y10,.b y11,.d (.ro (Reject.row (nth y8.2.2.1 (Int.toNat (1))))),.d (.agg (Reject.row (⟨1,2,1,13⟩:Reject))),.b (eqVs (Reject.vals (nth y8.2.2.1 (Int.toNat (1)))) (Reject.vals (⟨1,2,1,13⟩:Reject)))] rfl ⟨rfl,fun hg=>OpQ.g (q_steql fk_47 rfl rfl (xs:=Reject.vals (nth y8.2.2.1 (Int.toNat (1)))) (ys:=Reject.vals (⟨1,2,1,13⟩:Reject)) rfl rfl rfl rfl),rfl,rfl,fun hg=>OpQ.g (q_buildP pl_47 hi47 hz47 rfl rfl),rfl,fun hg=>s38.ix rfl rfl rfl (hk1 hg),rfl,rfl,fun hg=>g_call (en 56 rfl) rfl rfl (c_f_intake_Check (gcall_some hy11 hg)),rfl,rfl,rfl,fun hg=>g_call (en 44 rfl) rfl rfl (c_f_intake_Next (gcall_some hy10 hg)),rfl,g_call (en 44 rfl) rfl rfl (c_f_intake_Next (hy9))⟩ ?_
  refine .R func10 results10 rfl ?_
  cases H
  exact .m rfl (.rfl' _)
theorem c_f_r16_next {v0heads:List Head} {v1n:Int} {v2source:Int} {r:Int} (H:f_r16_next v0heads v1n v2source=some r):ACall prog 34 [slOf 4 Head.row v0heads,cI v1n,cI v2source] (·=cI r):=by
 refine ACall.enter' func34 rfl ntmps34 rfl fun S hS=>?_
 unfold f_r16_next at H
 refine .A 14 [] rfl trivial ?_
 obtain ⟨n1,H⟩:=loop_some H
 refine .loop (ι:=Nat×(Int×Int)) (fun ⟨_,v7kl1,v8il1⟩=>[(0,.d (slOf 4 Head.row v0heads)),(1,.d (cI v1n)),(2,.d (cI v2source)),(7,.d (cI v7kl1)),(8,.d (cI v8il1))]) (fun ⟨_,v7kl1,v8il1⟩=>⟨[],[]⟩) (fun p=>iter (fun s=>f_r16_next_l1 v0heads v1n v2source s.1 s.2) p.1 p.2=some r) (·.1) (n1,(1,0)) H (.cons rfl (.rfl' _) (.cons rfl (.rfl' _) (.cons rfl (.rfl' _) (.cons rfl (.rfl' _) (.cons rfl (.rfl' _) (.nil)))))) rfl ?_
 rintro ⟨m1,v7kl1,v8il1⟩ HI ih1
 obtain ⟨n1,q1,hm1,H,HK1⟩:=iter_succ HI
 clear HI
 replace H:f_r16_next_l1 v0heads v1n v2source v7kl1 v8il1=some q1:=H
 unfold f_r16_next_l1 at H
 refine .A 7 [] rfl trivial ?_
 refine .ite H rfl (fun H=>?_) (fun H=>?_)
 ·obtain ⟨hk1,H⟩:=ck_some H
  refine .A 13 [.d (.ro (Head.row (nth v0heads v8il1.toNat)))] rfl (s24.ix rfl rfl rfl hk1) ?_
  refine .ite H rfl (fun H=>?_) (fun H=>?_)
  ·obtain ⟨hk2,H⟩:=ck_some H
   obtain ⟨hk3,H⟩:=ck_some H
   obtain ⟨hk4,H⟩:=ck_some H
   refine .A 15 [.d (.ro (Head.row (nth v0heads v8il1.toNat))),.i (((nth v0heads v8il1.toNat).number)+1),.i (v8il1+1)] rfl ⟨g_addI rfl rfl hk4,g_addI rfl rfl hk3,s24.ix rfl rfl rfl hk2⟩ ?_
   cases H
   exact .z (ih1 (n1,(((nth v0heads v8il1.toNat).number)+1,v8il1+1)) HK1 hm1) rfl rfl
  ·obtain ⟨hk5,H⟩:=ck_some H
   refine .A 7 [.i (v8il1+1)] rfl (g_addI rfl rfl hk5) ?_
   cases H
   exact .z (ih1 (n1,(v7kl1,v8il1+1)) HK1 hm1) rfl rfl
 ·refine .A 6 [] rfl trivial ?_
  refine .R func34 results34 rfl ?_
  cases H
  cases HK1
  exact .m rfl (.rfl' _)
theorem c_f_r16_heads {v0:Intake} {r:Bool} (H:f_r16_heads v0=some r):ACall prog 29 [.agg (Intake.row v0)] (·=cB r):=by
 refine ACall.enter' func29 rfl ntmps29 rfl fun S hS=>?_
 unfold f_r16_heads at H
 refine .A 11 [.r 0] rfl trivial ?_
 obtain ⟨n1,H⟩:=loop_some H
 refine .loop (ι:=Nat×(Int)) (fun ⟨_,v3l1⟩=>[(1,.ref 0 0),(3,.d (cI v3l1))]) (fun ⟨_,v3l1⟩=>⟨[.row 26 [.d (slOf 3 Range.row v0.seen),.d (slOf 12 Record.row v0.open_),.d (slOf 4 Head.row v0.heads)]],[]⟩) (fun p=>iter (fun s=>f_r16_heads_l1 v0 s) p.1 p.2=some r) (·.1) (n1,0) H (.cons rfl (.rfl' _) (.cons rfl (.rfl' _) (.nil))) rfl ?_
 rintro ⟨m1,v3l1⟩ HI ih1
 obtain ⟨n1,q1,hm1,H,HK1⟩:=iter_succ HI
 clear HI
 replace H:f_r16_heads_l1 v0 v3l1=some q1:=H
 unfold f_r16_heads_l1 at H
 refine .A 9 [.i (v0.heads.length:Int)] rfl (s24.n rfl rfl) ?_
 refine .ite H rfl (fun H=>?_) (fun H=>?_)
 ·obtain ⟨hk1,H⟩:=ck_some H
  obtain ⟨y1,hy1,H⟩:=bind_some' H
  refine .A 66 [.d (.ro (Head.row (nth v0.heads v3l1.toNat))),.r 1,.p 49,.i y1] rfl ⟨rfl,rfl,rfl,rfl,rfl,rfl,rfl,rfl,rfl,rfl,rfl,rfl,rfl,rfl,rfl,fun hg=>g_call (en 57 rfl) rfl rfl (c_f_r16_next (gcall_some hy1 hg)),rfl,rfl,rfl,rfl,rfl,rfl,rfl,rfl,rfl,rfl,rfl,rfl,rfl,rfl,rfl,(show drawB _ _=true by kernel_rfl),s24.ix rfl rfl rfl hk1⟩ ?_
  refine .ite H rfl (fun H=>?_) (fun H=>?_)
  ·refine .A 4 [] rfl trivial ?_
   refine .R func29 results29 rfl ?_
   cases H
   cases HK1
   exact .m rfl (.rfl' _)
  ·obtain ⟨hk2,H⟩:=ck_some H
   refine .A 7 [.i (v3l1+1)] rfl (g_addI rfl rfl hk2) ?_
   cases H
   exact .t 1 0 (ih1 (n1,(v3l1+1)) HK1 hm1) rfl rfl rfl rfl rfl hS rfl
 ·refine .A 5 [] rfl trivial ?_
  refine .R func29 results29 rfl ?_
  cases H
  cases HK1
  exact .m rfl (.rfl' _)
theorem c_f_r14_identity {v0source:Int} {v1serial:Int} {r:Bool} (H:f_r14_identity v0source v1serial=some r):ACall prog 56 [cI v0source,cI v1serial] (·=cB r):=by
 refine ACall.enter' func56 rfl ntmps56 rfl fun S hS=>?_
 unfold f_r14_identity at H
 refine .A 22 [] rfl ⟨rfl,rfl,rfl,rfl,rfl,rfl⟩ ?_
 refine .R func56 results56 rfl ?_
 cases H
 exact .m rfl (.rfl' _)
theorem c_f_r14_Check {v0:List Range} {r:Bool} (H:f_r14_Check v0=some r):ACall prog 30 [slOf 3 Range.row v0] (·=cB r):=by
 refine ACall.enter' func30 rfl ntmps30 rfl fun S hS=>?_
 unfold f_r14_Check at H
 refine .A 10 [] rfl trivial ?_
 obtain ⟨n1,H⟩:=loop_some H
 refine .loop (ι:=Nat×(Int)) (fun ⟨_,v3l1⟩=>[(0,.d (slOf 3 Range.row v0)),(3,.d (cI v3l1))]) (fun ⟨_,v3l1⟩=>⟨[],[]⟩) (fun p=>iter (fun s=>f_r14_Check_l1 v0 s) p.1 p.2=some r) (·.1) (n1,0) H (.cons rfl (.rfl' _) (.cons rfl (.rfl' _) (.nil))) rfl ?_
 rintro ⟨m1,v3l1⟩ HI ih1
 obtain ⟨n1,q1,hm1,H,HK1⟩:=iter_succ HI
 clear HI
 replace H:f_r14_Check_l1 v0 v3l1=some q1:=H
 unfold f_r14_Check_l1 at H
 refine .A 8 [.i (v0.length:Int)] rfl (s22.n rfl rfl) ?_
 refine .ite H rfl (fun H=>?_) (fun H=>?_)
 ·obtain ⟨hk1,H⟩:=ck_some H
  obtain ⟨y1,hy1,H⟩:=bind_some' H
  obtain ⟨y2,hy2,H⟩:=bind_some' H
  refine .A 37 [.d (.ro (Range.row (nth v0 v3l1.toNat))),.r 0,.b y1,.b y2] rfl ⟨rfl,rfl,rfl,rfl,rfl,rfl,rfl,fun hg=>g_call (en 58 rfl) rfl rfl (c_f_r14_identity (gcall_some hy2 hg)),rfl,rfl,rfl,rfl,g_call (en 58 rfl) rfl rfl (c_f_r14_identity (hy1)),s22.ix rfl rfl rfl hk1⟩ ?_
  refine .ite H rfl (fun H=>?_) (fun H=>?_)
  ·refine .A 4 [] rfl trivial ?_
   refine .R func30 results30 rfl ?_
   cases H
   cases HK1
   exact .m rfl (.rfl' _)
  ·obtain ⟨hk2,H⟩:=ck_some H
   obtain ⟨hk3,H⟩:=ck_some H
   obtain ⟨hk4,H⟩:=ck_some H
   obtain ⟨hk5,H⟩:=ck_some H
   obtain ⟨hk6,H⟩:=ck_some H
   obtain ⟨hk7,H⟩:=ck_some H
   obtain ⟨hk8,H⟩:=ck_some H
   refine .C 36 [.p 36,.i (v3l1-1),.d (.ro (Range.row (nth v0 (v3l1-1).toNat))),.i (v3l1-1),.d (.ro (Range.row (nth v0 (v3l1-1).toNat))),.i (v3l1-1),.d (.ro (Range.row (nth v0 (v3l1-1).toNat))),.i (((nth v0 (v3l1-1).toNat).to_)+1)] rfl ⟨rfl,rfl,rfl,fun hg=>g_addI rfl rfl (hk8 hg),rfl,rfl,rfl,fun hg=>s22.ix rfl rfl rfl (hk7 hg),rfl,rfl,fun hg=>g_subI rfl rfl (hk6 hg),rfl,rfl,rfl,rfl,rfl,rfl,rfl,fun hg=>s22.ix rfl rfl rfl (hk5 hg),rfl,rfl,fun hg=>g_subI rfl rfl (hk4 hg),rfl,rfl,rfl,rfl,rfl,rfl,rfl,fun hg=>s22.ix rfl rfl rfl (hk3 hg),rfl,rfl,fun hg=>g_subI rfl rfl (hk2 hg),rfl,(show drawB _ _=true by kernel_rfl)⟩ ?_
   refine .guardG (env':=[(58,_),(68,_)]) rfl rfl rfl ⟨.inr (.inl rfl),⟨.inr (.inr ⟨_,_,rfl,rfl⟩),trivial⟩⟩ rfl (fun hg=>OpQ.g (q_pickAndB rfl rfl rfl)) ?_
   refine .guardG (env':=[(48,_),(69,_)]) rfl rfl rfl ⟨.inr (.inl rfl),⟨.inr (.inr ⟨_,_,rfl,rfl⟩),trivial⟩⟩ rfl (fun hg=>OpQ.g (q_pickOrB rfl rfl rfl)) ?_
   refine .A 3 [] rfl rfl ?_
   refine .ite H rfl (fun H=>?_) (fun H=>?_)
   ·refine .A 4 [] rfl trivial ?_
    refine .R func30 results30 rfl ?_
    cases H
    cases HK1
    exact .m rfl (.rfl' _)
   ·obtain ⟨hk9,H⟩:=ck_some H
    refine .A 7 [.i (v3l1+1)] rfl (g_addI rfl rfl hk9) ?_
    cases H
    exact .t 0 0 (ih1 (n1,(v3l1+1)) HK1 hm1) rfl rfl rfl rfl rfl hS rfl
 ·refine .A 5 [] rfl trivial ?_
  refine .R func30 results30 rfl ?_
  cases H
  cases HK1
  exact .m rfl (.rfl' _)
theorem c_f_r09_in {v0n:Int} {v1low:Int} {v2high:Int} {r:Bool} (H:f_r09_in v0n v1low v2high=some r):ACall prog 115 [cI v0n,cI v1low,cI v2high] (·=cB r):=by
 refine ACall.enter' func115 rfl ntmps115 rfl fun S hS=>?_
 unfold f_r09_in at H
 refine .A 16 [] rfl ⟨rfl,rfl,rfl⟩ ?_
 refine .R func115 results115 rfl ?_
 cases H
 exact .m rfl (.rfl' _)
theorem c_f_r02_Valid {v0s:List UInt8} {r:Bool} (H:f_r02_Valid v0s=some r):ACall prog 116 [cS v0s] (·=cB r):=by
 refine ACall.enter' func116 rfl ntmps116 rfl fun S hS=>?_
 unfold f_r02_Valid at H
 refine .A 9 [] rfl trivial ?_
 refine .blockJoin2 (ι:=Unit) (fun _=>[(0,.d (cS v0s))]) (fun _=>⟨[],[]⟩) (fun s=>f_r02_Valid_j1 v0s=some r) ?_ ?_
 ·rintro _ H
  replace H:f_r02_Valid_j1 v0s=some r:=H
  unfold f_r02_Valid_j1 at H
  refine .A 12 [.i (v0s.length:Int),.i (v0s.length:Int)] rfl ⟨rfl,rfl,fun hg=>OpQ.g (q_lenS underlying9 rfl),rfl,OpQ.g (q_lenS underlying9 rfl)⟩ ?_
  refine .R func116 results116 rfl ?_
  cases H
  exact .m rfl (.rfl' _)
 ·intro hj1 hj1x
  obtain ⟨n1,H⟩:=loop_some H
  refine .loop (ι:=Nat×(Int)) (fun ⟨_,v3il1⟩=>[(0,.d (cS v0s)),(3,.d (cI v3il1))]) (fun ⟨_,v3il1⟩=>⟨[],[]⟩) (fun p=>iter (fun s=>f_r02_Valid_l1 v0s s) p.1 p.2=some r) (·.1) (n1,0) H (.cons rfl (.rfl' _) (.cons rfl (.rfl' _) (.nil))) rfl ?_
  rintro ⟨m1,v3il1⟩ HI ih1
  obtain ⟨n1,q1,hm1,H,HK1⟩:=iter_succ HI
  clear HI
  replace H:f_r02_Valid_l1 v0s v3il1=some q1:=H
  unfold f_r02_Valid_l1 at H
  refine .A 8 [.i (v0s.length:Int)] rfl (OpQ.g (q_lenS underlying9 rfl)) ?_
  refine .ite H rfl (fun H=>?_) (fun H=>?_)
  ·obtain ⟨hk1,H⟩:=ck_some H
   obtain ⟨hk2,H⟩:=ck_some H
   refine .A 16 [.c (nth v0s v3il1.toNat),.b (decide ((nth v0s v3il1.toNat) < 48)),.c (nth v0s v3il1.toNat),.b (decide ((nth v0s v3il1.toNat) > 57))] rfl ⟨rfl,fun hg=>OpQ.g (q8_gtr (a:=nth v0s v3il1.toNat) (b:=57) rfl rfl),rfl,fun hg=>OpQ.g (q_indexL (i:=v3il1) underlying9 rfl rfl (hk2 hg)),rfl,rfl,OpQ.g (q8_lss (a:=nth v0s v3il1.toNat) (b:=48) rfl rfl),OpQ.g (q_indexL (i:=v3il1) underlying9 rfl rfl hk1)⟩ ?_
   refine .ite H rfl (fun H=>?_) (fun H=>?_)
   ·refine .A 4 [] rfl trivial ?_
    refine .R func116 results116 rfl ?_
    cases H
    cases HK1
    exact .m rfl (.rfl' _)
   ·obtain ⟨hk3,H⟩:=ck_some H
    refine .A 7 [.i (v3il1+1)] rfl (g_addI rfl rfl hk3) ?_
    cases H
    exact .z (ih1 (n1,(v3il1+1)) HK1 hm1) rfl rfl
  ·refine .A 1 [] rfl trivial ?_
   obtain ⟨q0,H9,hq0⟩:=map_some' H; clear H; cases hq0
   cases HK1
   have H:=H9
   exact .z (hj1x () H) rfl rfl
set_option maxRecDepth 100000
set_option maxHeartbeats 1000000
theorem c_f_r09_Error {v0:Record} {r:Int} (H:f_r09_Error v0=some r):ACall prog 79 [.agg (Record.row v0)] (·=cI r):=by
 refine ACall.enter' func79 rfl ntmps79 rfl fun S hS=>?_
 unfold f_r09_Error at H
 obtain ⟨y1,hy1,H⟩:=bind_some' H
 obtain ⟨y2,hy2,H⟩:=bind_some' H
 refine .A 21 [.r 0,.b y1,.b y2] rfl ⟨rfl,rfl,fun hg=>g_call (en 59 rfl) rfl rfl (c_f_r09_in (gcall_some hy2 hg)),rfl,rfl,g_call (en 59 rfl) rfl rfl (c_f_r09_in (hy1))⟩ ?_
 refine .ite H rfl (fun H=>?_) (fun H=>?_)
 ·refine .A 4 [] rfl trivial ?_
  refine .R func79 results79 rfl ?_
  cases H
  exact .m rfl (.rfl' _)
 ·obtain ⟨y3,hy3,H⟩:=bind_some' H
  refine .A 8 [.b y3] rfl (g_call (en 59 rfl) rfl rfl (c_f_r09_in (hy3))) ?_
  refine .ite H rfl (fun H=>?_) (fun H=>?_)
  ·refine .A 4 [] rfl trivial ?_
   refine .R func79 results79 rfl ?_
   cases H
   exact .m rfl (.rfl' _)
  ·obtain ⟨y4,hy4,H⟩:=bind_some' H
   refine .A 8 [.b y4] rfl (g_call (en 60 rfl) rfl rfl (c_f_r02_Valid (hy4))) ?_
   refine .ite H rfl (fun H=>?_) (fun H=>?_)
   ·refine .A 4 [] rfl trivial ?_
    refine .R func79 results79 rfl ?_
    cases H
    exact .m rfl (.rfl' _)
   ·obtain ⟨y5,hy5,H⟩:=bind_some' H
    refine .B 18 [.b y5] rfl ⟨rfl,rfl,rfl,rfl,rfl,rfl,rfl,rfl,g_call (en 60 rfl) rfl rfl (c_f_r02_Valid (hy5))⟩ ?_
    refine .guardG (env':=[(37,_),(40,_)]) rfl rfl rfl ⟨.inr (.inl rfl),⟨.inr (.inr ⟨_,_,rfl,rfl⟩),trivial⟩⟩ rfl (fun hg=>OpQ.g (q_pickAndB rfl rfl rfl)) ?_
    refine .guardG (env':=[(33,_),(41,_)]) rfl rfl rfl ⟨.inr (.inl rfl),⟨.inr (.inr ⟨_,_,rfl,rfl⟩),trivial⟩⟩ rfl (fun hg=>OpQ.g (q_pickOrB rfl rfl rfl)) ?_
    refine .A 3 [] rfl rfl ?_
    refine .ite H rfl (fun H=>?_) (fun H=>?_)
    ·refine .A 4 [] rfl trivial ?_
     refine .R func79 results79 rfl ?_
     cases H
     exact .m rfl (.rfl' _)
    ·obtain ⟨y6,hy6,H⟩:=bind_some' H
     refine .A 8 [.b y6] rfl (g_call (en 59 rfl) rfl rfl (c_f_r09_in (hy6))) ?_
     refine .ite H rfl (fun H=>?_) (fun H=>?_)
     ·refine .A 4 [] rfl trivial ?_
      refine .R func79 results79 rfl ?_
      cases H
      exact .m rfl (.rfl' _)
     ·obtain ⟨y7,hy7,H⟩:=bind_some' H
      refine .B 14 [.b y7] rfl ⟨rfl,rfl,rfl,rfl,rfl,g_call (en 59 rfl) rfl rfl (c_f_r09_in (hy7))⟩ ?_
      refine .guardG (env':=[(58,_),(61,_)]) rfl rfl rfl ⟨.inr (.inl rfl),⟨.inr (.inr ⟨_,_,rfl,rfl⟩),trivial⟩⟩ rfl (fun hg=>OpQ.g (q_pickAndB rfl rfl rfl)) ?_
      refine .A 3 [] rfl rfl ?_
      refine .ite H rfl (fun H=>?_) (fun H=>?_)
      ·refine .A 4 [] rfl trivial ?_
       refine .R func79 results79 rfl ?_
       cases H
       exact .m rfl (.rfl' _)
      ·obtain ⟨hk1,H⟩:=ck_some H
       refine .A 15 [.i (v0.start+v0.units)] rfl ⟨rfl,rfl,fun hg=>g_addI rfl rfl (hk1 hg),rfl,rfl,rfl,rfl⟩ ?_
       refine .ite H rfl (fun H=>?_) (fun H=>?_)
       ·refine .A 4 [] rfl trivial ?_
        refine .R func79 results79 rfl ?_
        cases H
        exact .m rfl (.rfl' _)
       ·obtain ⟨y8,hy8,H⟩:=bind_some' H
        obtain ⟨y9,hy9,H⟩:=bind_some' H
        refine .A 14 [.b y8,.b y9] rfl ⟨rfl,rfl,fun hg=>g_call (en 59 rfl) rfl rfl (c_f_r09_in (gcall_some hy9 hg)),rfl,rfl,g_call (en 59 rfl) rfl rfl (c_f_r09_in (hy8))⟩ ?_
        refine .ite H rfl (fun H=>?_) (fun H=>?_)
        ·refine .A 4 [] rfl trivial ?_
         refine .R func79 results79 rfl ?_
         cases H
         exact .m rfl (.rfl' _)
        ·refine .B 16 [.b ((v0.part==0) != (v0.call==0))] rfl ⟨rfl,rfl,rfl,rfl,OpQ.g (q_bneq rfl underlying4 rfl)⟩ ?_
         refine .guardG (env':=[(98,_),(101,_)]) rfl rfl rfl ⟨.inr (.inl rfl),⟨.inr (.inr ⟨_,_,rfl,rfl⟩),trivial⟩⟩ rfl (fun hg=>OpQ.g (q_pickAndB rfl rfl rfl)) ?_
         refine .A 3 [] rfl rfl ?_
         refine .ite H rfl (fun H=>?_) (fun H=>?_)
         ·refine .A 4 [] rfl trivial ?_
          refine .R func79 results79 rfl ?_
          cases H
          exact .m rfl (.rfl' _)
         ·obtain ⟨y10,hy10,H⟩:=bind_some' H
          refine .A 8 [.b y10] rfl (g_call (en 59 rfl) rfl rfl (c_f_r09_in (hy10))) ?_
          refine .ite H rfl (fun H=>?_) (fun H=>?_)
          ·refine .A 4 [] rfl trivial ?_
           refine .R func79 results79 rfl ?_
           cases H
           exact .m rfl (.rfl' _)
          ·refine .A 11 [] rfl ⟨rfl,rfl,rfl⟩ ?_
           refine .ite H rfl (fun H=>?_) (fun H=>?_)
           ·refine .A 4 [] rfl trivial ?_
            refine .R func79 results79 rfl ?_
            cases H
            exact .m rfl (.rfl' _)
           ·refine .A 6 [] rfl trivial ?_
            refine .R func79 results79 rfl ?_
            cases H
            exact .m rfl (.rfl' _)
theorem c_f_r13_Check {v0r:Record} {r:Int} (H:f_r13_Check v0r=some r):ACall prog 57 [.agg (Record.row v0r)] (·=cI r):=by
 refine ACall.enter' func57 rfl ntmps57 rfl fun S hS=>?_
 unfold f_r13_Check at H
 obtain ⟨y1,hy1,H⟩:=bind_some' H
 refine .A 11 [.r 0,.i y1] rfl (g_call (en 61 rfl) rfl rfl (c_f_r09_Error (hy1))) ?_
 refine .R func57 results57 rfl ?_
 cases H
 exact .m rfl (.rfl' _)
theorem c_f_r15_before {v0a:Record} {v1b:Record} {r:Bool} (H:f_r15_before v0a v1b=some r):ACall prog 58 [.agg (Record.row v0a),.agg (Record.row v1b)] (·=cB r):=by
 refine ACall.enter' func58 rfl ntmps58 rfl fun S hS=>?_
 unfold f_r15_before at H
 refine .A 15 [.r 0,.r 1] rfl trivial ?_
 refine .ite H rfl (fun H=>?_) (fun H=>?_)
 ·refine .A 9 [] rfl trivial ?_
  refine .R func58 results58 rfl ?_
  cases H
  exact .m rfl (.rfl' _)
 ·refine .A 10 [] rfl trivial ?_
  refine .ite H rfl (fun H=>?_) (fun H=>?_)
  ·refine .A 9 [] rfl trivial ?_
   refine .R func58 results58 rfl ?_
   cases H
   exact .m rfl (.rfl' _)
  ·refine .A 10 [] rfl trivial ?_
   refine .R func58 results58 rfl ?_
   cases H
   exact .m rfl (.rfl' _)
theorem c_f_r15_call {v0a:Record} {v1b:Record} {r:Bool} (H:f_r15_call v0a v1b=some r):ACall prog 88 [.agg (Record.row v0a),.agg (Record.row v1b)] (·=cB r):=by
 refine ACall.enter' func88 rfl ntmps88 rfl fun S hS=>?_
 unfold f_r15_call at H
 refine .A 22 [.r 0,.r 1] rfl ⟨rfl,rfl,rfl,rfl,rfl⟩ ?_
 refine .R func88 results88 rfl ?_
 cases H
 exact .m rfl (.rfl' _)
theorem c_f_r15_firsts {v0open:List Record} {v1x:Record} {v2last:Bool} {r:(List Int)} (H:f_r15_firsts v0open v1x v2last=some r):ACall prog 60 [slOf 12 Record.row v0open,.agg (Record.row v1x),cB v2last] (·=slOf 1 rI r):=by
 obtain ⟨i3,hi3,hz3,hs3,hb3⟩:=in_3
 refine ACall.enter' func60 rfl ntmps60 rfl fun S hS=>?_
 unfold f_r15_firsts at H
 refine .A 15 [.r 0] rfl trivial ?_
 refine .tok (i:=7) (e:=3) (sz:=1) rfl ?_
 obtain ⟨n1,H⟩:=loop_some H
 refine .loop (ι:=Nat×(List Int×Int)) (fun ⟨_,v7outl1,v8il1⟩=>[(0,.d (slOf 12 Record.row v0open)),(2,.d (cB v2last)),(4,.ref 0 0),(7,.tsl 1 (v7outl1.map rI) 0),(8,.d (cI v8il1))]) (fun ⟨_,v7outl1,v8il1⟩=>⟨[.row 49 [.d (cI v1x.source),.d (cI v1x.serial),.d (cI v1x.kind),.d (cS v1x.a),.d (cS v1x.b),.d (cI v1x.start),.d (cI v1x.units),.d (cI v1x.call),.d (cI v1x.part),.d (cB v1x.last),.d (cI v1x.trunk),.d (cB v1x.inbound)]],[⟨3,1,v7outl1.length,none⟩]⟩) (fun p=>iter (fun s=>f_r15_firsts_l1 v0open v1x v2last s.1 s.2) p.1 p.2=some r) (·.1) (n1,(([]:List Int),0)) H (.cons rfl (.rfl' _) (.cons rfl (.rfl' _) (.cons rfl (.rfl' _) (.cons rfl (.rfl' _) (.cons rfl (.rfl' _) (.nil)))))) rfl ?_
 rintro ⟨m1,v7outl1,v8il1⟩ HI ih1
 obtain ⟨n1,q1,hm1,H,HK1⟩:=iter_succ HI
 clear HI
 replace H:f_r15_firsts_l1 v0open v1x v2last v7outl1 v8il1=some q1:=H
 unfold f_r15_firsts_l1 at H
 refine .A 8 [.i (v0open.length:Int)] rfl (s23.n rfl rfl) ?_
 refine .ite H rfl (fun H=>?_) (fun H=>?_)
 ·obtain ⟨hk1,H⟩:=ck_some H
  obtain ⟨y1,hy1,H⟩:=bind_some' H
  obtain ⟨hk2,H⟩:=ck_some H
  obtain ⟨hk3,H⟩:=ck_some H
  refine .A 24 [.p 17,.d (.ro (Record.row (nth v0open v8il1.toNat))),.b y1,.d (.ro (Record.row (nth v0open v8il1.toNat))),.i (v7outl1.length:Int),.i ((v7outl1.length:Int)+1)] rfl ⟨rfl,rfl,rfl,fun hg=>g_addI rfl rfl (hk3 hg),rfl,fun hg=>s69.n rfl rfl,rfl,rfl,rfl,fun hg=>s23.ix rfl rfl rfl (hk2 hg),rfl,rfl,g_call (en 62 rfl) rfl rfl (c_f_r15_call (hy1)),s23.ix rfl rfl rfl hk1,(show drawB _ _=true by kernel_rfl)⟩ ?_
  refine .ite H rfl (fun H=>?_) (fun H=>?_)
  ·obtain ⟨hk4,H⟩:=ck_some H
   obtain ⟨hk5,H⟩:=ck_some H
   refine .A 19 [.d (slOf 1 rI ([v8il1]:List Int)),.a 0 3 1 rI (v7outl1++([v8il1]:List Int)),.d (.ro (Record.row (nth v0open v8il1.toNat)))] rfl ⟨rfl,rfl,rfl,fun hg=>s23.ix rfl rfl rfl (hk5 hg),rfl,rfl,s69.a rfl rfl rfl rfl hk4,g_buildSlice1 underlying69 hi3 hs3 hz3 rfl rfl rfl rfl rfl⟩ ?_
   refine .ite H rfl (fun H=>?_) (fun H=>?_)
   ·refine .A 6 [] rfl trivial ?_
    refine .R func60 results60 rfl ?_
    cases H
    cases HK1
    exact .m rfl (.tsl _ _ _)
   ·obtain ⟨hk6,H⟩:=ck_some H
    refine .A 7 [.i (v8il1+1)] rfl (g_addI rfl rfl hk6) ?_
    cases H
    exact .z (ih1 (n1,(v7outl1++([v8il1]:List Int),v8il1+1)) HK1 hm1) rfl rfl
  ·obtain ⟨hk7,H⟩:=ck_some H
   refine .A 7 [.i (v8il1+1)] rfl (g_addI rfl rfl hk7) ?_
   cases H
   exact .z (ih1 (n1,(v7outl1,v8il1+1)) HK1 hm1) rfl rfl
 ·refine .A 6 [] rfl trivial ?_
  refine .R func60 results60 rfl ?_
  cases H
  cases HK1
  exact .m rfl (.tsl _ _ _)
theorem c_f_r15_pick {v0list:List Record} {v1at:List Int} {r:(List Record)×(List Record)} (H:f_r15_pick v0list v1at=some r):ACall prog 59 [slOf 12 Record.row v0list,slOf 1 rI v1at] (·=.tup [slOf 12 Record.row r.1,slOf 12 Record.row r.2]):=by
 obtain ⟨i49,hi49,hz49,hs49,hb49⟩:=in_49
 refine ACall.enter' func59 rfl ntmps59 rfl fun S hS=>?_
 unfold f_r15_pick at H
 refine .A 20 [] rfl trivial ?_
 refine .tok (i:=6) (e:=49) (sz:=12) rfl ?_
 refine .tok (i:=7) (e:=49) (sz:=12) rfl ?_
 obtain ⟨n1,H⟩:=loop_some H
 refine .loop (ι:=Nat×(List Record×List Record×Int×Int)) (fun ⟨_,v6outl1,v7restl1,v8kl1,v9il1⟩=>[(0,.d (slOf 12 Record.row v0list)),(1,.d (slOf 1 rI v1at)),(6,.tsl 12 (v6outl1.map Record.row) 0),(7,.tsl 12 (v7restl1.map Record.row) 1),(8,.d (cI v8kl1)),(9,.d (cI v9il1))]) (fun ⟨_,v6outl1,v7restl1,v8kl1,v9il1⟩=>⟨[],[⟨49,12,v6outl1.length,none⟩,⟨49,12,v7restl1.length,none⟩]⟩) (fun p=>iter (fun s=>f_r15_pick_l1 v0list v1at s.1 s.2.1 s.2.2.1 s.2.2.2) p.1 p.2=some r) (·.1) (n1,(([]:List Record),([]:List Record),0,0)) H (.cons rfl (.rfl' _) (.cons rfl (.rfl' _) (.cons rfl (.rfl' _) (.cons rfl (.rfl' _) (.cons rfl (.rfl' _) (.cons rfl (.rfl' _) (.nil))))))) rfl ?_
 rintro ⟨m1,v6outl1,v7restl1,v8kl1,v9il1⟩ HI ih1
 obtain ⟨n1,q1,hm1,H,HK1⟩:=iter_succ HI
 clear HI
 replace H:f_r15_pick_l1 v0list v1at v6outl1 v7restl1 v8kl1 v9il1=some q1:=H
 unfold f_r15_pick_l1 at H
 refine .A 8 [.i (v0list.length:Int)] rfl (s23.n rfl rfl) ?_
 refine .ite H rfl (fun H=>?_) (fun H=>?_)
 ·obtain ⟨hk1,H⟩:=ck_some H
  refine .A 18 [.i (v1at.length:Int),.d (.ro (rI (nth v1at v8kl1.toNat)))] rfl ⟨rfl,rfl,rfl,rfl,fun hg=>s69.ix rfl rfl rfl (hk1 hg),rfl,rfl,s69.n rfl rfl⟩ ?_
  refine .ite H rfl (fun H=>?_) (fun H=>?_)
  ·obtain ⟨hk2,H⟩:=ck_some H
   obtain ⟨hk3,H⟩:=ck_some H
   obtain ⟨hk4,H⟩:=ck_some H
   obtain ⟨hk5,H⟩:=ck_some H
   refine .A 22 [.d (.ro (Record.row (nth v0list v9il1.toNat))),.d (slOf 12 Record.row ([nth v0list v9il1.toNat]:List Record)),.a 0 49 12 Record.row (v6outl1++([nth v0list v9il1.toNat]:List Record)),.i (v8kl1+1),.i (v9il1+1)] rfl ⟨g_addI rfl rfl hk5,g_addI rfl rfl hk4,s23.a rfl rfl rfl rfl hk3,g_buildSlice1 underlying23 hi49 hs49 hz49 rfl rfl rfl rfl rfl,s23.ix rfl rfl rfl hk2⟩ ?_
   cases H
   exact .z (ih1 (n1,(v6outl1++([nth v0list v9il1.toNat]:List Record),v7restl1,v8kl1+1,v9il1+1)) HK1 hm1) rfl rfl
  ·obtain ⟨hk6,H⟩:=ck_some H
   obtain ⟨hk7,H⟩:=ck_some H
   obtain ⟨hk8,H⟩:=ck_some H
   refine .A 16 [.d (.ro (Record.row (nth v0list v9il1.toNat))),.d (slOf 12 Record.row ([nth v0list v9il1.toNat]:List Record)),.a 1 49 12 Record.row (v7restl1++([nth v0list v9il1.toNat]:List Record)),.i (v9il1+1)] rfl ⟨g_addI rfl rfl hk8,s23.a rfl rfl rfl rfl hk7,g_buildSlice1 underlying23 hi49 hs49 hz49 rfl rfl rfl rfl rfl,s23.ix rfl rfl rfl hk6⟩ ?_
   cases H
   exact .z (ih1 (n1,(v6outl1,v7restl1++([nth v0list v9il1.toNat]:List Record),v8kl1,v9il1+1)) HK1 hm1) rfl rfl
 ·refine .A 8 [] rfl trivial ?_
  refine .R func59 results59 rfl ?_
  cases H
  cases HK1
  exact .m rfl (.tupL ⟨.tsl _ _ _,.tsl _ _ _,trivial⟩)
theorem c_f_r15_whole {v0:List Record} {r:Record×Bool} (H:f_r15_whole v0=some r):ACall prog 91 [slOf 12 Record.row v0] (·=.tup [.agg (Record.row r.1),cB r.2]):=by
 obtain ⟨i49,hi49,hz49,hs49,hb49⟩:=in_49
 refine ACall.enter' func91 rfl ntmps91 rfl fun S hS=>?_
 unfold f_r15_whole at H
 refine .A 14 [.r 0,.r 1] rfl trivial ?_
 refine .blockJoin2 (ι:=Int×Int×Int×List UInt8×List UInt8×Int×Int×Int×Bool) (fun ⟨o1c0j1,o1c1j1,o1c2j1,o1c3j1,o1c4j1,o1c5j1,o1c6j1,o1c10j1,o1c11j1⟩=>[(0,.d (slOf 12 Record.row v0)),(2,.ref 0 0),(4,.ref 1 0)]) (fun ⟨o1c0j1,o1c1j1,o1c2j1,o1c3j1,o1c4j1,o1c5j1,o1c6j1,o1c10j1,o1c11j1⟩=>⟨[.row 49 [.d (cI 0),.d (cI 0),.d (cI 0),.d (cS ([]:List UInt8)),.d (cS ([]:List UInt8)),.d (cI 0),.d (cI 0),.d (cI 0),.d (cI 0),.d (cB false),.d (cI 0),.d (cB false)],.row 49 [.d (cI o1c0j1),.d (cI o1c1j1),.d (cI o1c2j1),.d (cS o1c3j1),.d (cS o1c4j1),.d (cI o1c5j1),.d (cI o1c6j1),.d (cI 0),.d (cI 0),.d (cB false),.d (cI o1c10j1),.d (cB o1c11j1)]],[]⟩) (fun s=>f_r15_whole_j1 v0 s.1 s.2.1 s.2.2.1 s.2.2.2.1 s.2.2.2.2.1 s.2.2.2.2.2.1 s.2.2.2.2.2.2.1 s.2.2.2.2.2.2.2.1 s.2.2.2.2.2.2.2.2=some r) ?_ ?_
 ·rintro ⟨o1c0j1,o1c1j1,o1c2j1,o1c3j1,o1c4j1,o1c5j1,o1c6j1,o1c10j1,o1c11j1⟩ H
  replace H:f_r15_whole_j1 v0 o1c0j1 o1c1j1 o1c2j1 o1c3j1 o1c4j1 o1c5j1 o1c6j1 o1c10j1 o1c11j1=some r:=H
  unfold f_r15_whole_j1 at H
  refine .A 9 [.i (v0.length:Int)] rfl (s23.n rfl rfl) ?_
  refine .R func91 results91 rfl ?_
  cases H
  exact .m rfl (.tupD rfl)
 ·intro hj1 hj1x
  obtain ⟨n1,H⟩:=loop_some H
  refine .loop (ι:=Nat×(Int×Int×Int×Int×List UInt8×List UInt8×Int×Int×Int×Bool)) (fun ⟨_,v5l1,o1c0l1,o1c1l1,o1c2l1,o1c3l1,o1c4l1,o1c5l1,o1c6l1,o1c10l1,o1c11l1⟩=>[(0,.d (slOf 12 Record.row v0)),(2,.ref 0 0),(4,.ref 1 0),(5,.d (cI v5l1))]) (fun ⟨_,v5l1,o1c0l1,o1c1l1,o1c2l1,o1c3l1,o1c4l1,o1c5l1,o1c6l1,o1c10l1,o1c11l1⟩=>⟨[.row 49 [.d (cI 0),.d (cI 0),.d (cI 0),.d (cS ([]:List UInt8)),.d (cS ([]:List UInt8)),.d (cI 0),.d (cI 0),.d (cI 0),.d (cI 0),.d (cB false),.d (cI 0),.d (cB false)],.row 49 [.d (cI o1c0l1),.d (cI o1c1l1),.d (cI o1c2l1),.d (cS o1c3l1),.d (cS o1c4l1),.d (cI o1c5l1),.d (cI o1c6l1),.d (cI 0),.d (cI 0),.d (cB false),.d (cI o1c10l1),.d (cB o1c11l1)]],[]⟩) (fun p=>iter (fun s=>f_r15_whole_l1 v0 s.1 s.2.1 s.2.2.1 s.2.2.2.1 s.2.2.2.2.1 s.2.2.2.2.2.1 s.2.2.2.2.2.2.1 s.2.2.2.2.2.2.2.1 s.2.2.2.2.2.2.2.2.1 s.2.2.2.2.2.2.2.2.2) p.1 p.2=some r) (·.1) (n1,(0,0,0,0,([]:List UInt8),([]:List UInt8),0,0,0,false)) H (.cons rfl (.rfl' _) (.cons rfl (.rfl' _) (.cons rfl (.rfl' _) (.cons rfl (.rfl' _) (.nil))))) rfl ?_
  rintro ⟨m1,v5l1,o1c0l1,o1c1l1,o1c2l1,o1c3l1,o1c4l1,o1c5l1,o1c6l1,o1c10l1,o1c11l1⟩ HI ih1
  obtain ⟨n1,q1,hm1,H,HK1⟩:=iter_succ HI
  clear HI
  replace H:f_r15_whole_l1 v0 v5l1 o1c0l1 o1c1l1 o1c2l1 o1c3l1 o1c4l1 o1c5l1 o1c6l1 o1c10l1 o1c11l1=some q1:=H
  unfold f_r15_whole_l1 at H
  refine .A 8 [.i (v0.length:Int)] rfl (s23.n rfl rfl) ?_
  refine .ite H rfl (fun H=>?_) (fun H=>?_)
  ·obtain ⟨hk1,H⟩:=ck_some H
   obtain ⟨y1,hy1,H⟩:=bind_some' H
   refine .A 24 [.d (.ro (Record.row (nth v0 v5l1.toNat))),.r 2,.i y1] rfl ⟨rfl,rfl,fun hg=>g_call (en 63 rfl) rfl rfl (c_f_r13_Check (gcall_some hy1 hg)),rfl,s23.ix rfl rfl rfl hk1⟩ ?_
   refine .ite H rfl (fun H=>?_) (fun H=>?_)
   ·refine .A 6 [.d (.agg (Record.row (⟨0,0,0,([]:List UInt8),([]:List UInt8),0,0,0,0,false,0,false⟩:Record)))] rfl (OpQ.g (q_buildP pl_49 hi49 hz49 rfl rfl)) ?_
    refine .R func91 results91 rfl ?_
    cases H
    cases HK1
    exact .m rfl (.tupD rfl)
   ·obtain ⟨hk2,H⟩:=ck_some H
    obtain ⟨hk3,H⟩:=ck_some H
    obtain ⟨y2,hy2,H⟩:=bind_some' H
    refine .A 61 [.i (o1c6l1+((nth v0 v5l1.toNat).units)),.d (.ro (Record.row (nth v0 (Int.toNat (0))))),.r 3,.b y2,.b (((nth v0 v5l1.toNat).inbound) != ((nth v0 (Int.toNat (0))).inbound))] rfl ⟨rfl,fun hg=>OpQ.g (q_bneq rfl underlying4 rfl),rfl,rfl,rfl,rfl,rfl,rfl,rfl,rfl,rfl,rfl,rfl,rfl,rfl,rfl,rfl,rfl,rfl,rfl,rfl,rfl,rfl,rfl,rfl,rfl,g_call (en 62 rfl) rfl rfl (c_f_r15_call (hy2)),s23.ix rfl rfl rfl hk3,g_addI rfl rfl hk2⟩ ?_
    refine .ite H rfl (fun H=>?_) (fun H=>?_)
    ·refine .A 6 [.d (.agg (Record.row (⟨0,0,0,([]:List UInt8),([]:List UInt8),0,0,0,0,false,0,false⟩:Record)))] rfl (OpQ.g (q_buildP pl_49 hi49 hz49 rfl rfl)) ?_
     refine .R func91 results91 rfl ?_
     cases H
     cases HK1
     exact .m rfl (.tupD rfl)
    ·obtain ⟨y3,hy3,H⟩:=bind_some' H
     refine .A 33 [.i y3] rfl (g_call (en 63 rfl) rfl rfl (c_f_r13_Check (hy3))) ?_
     refine .ite H rfl (fun H=>?_) (fun H=>?_)
     ·refine .A 6 [.d (.agg (Record.row (⟨0,0,0,([]:List UInt8),([]:List UInt8),0,0,0,0,false,0,false⟩:Record)))] rfl (OpQ.g (q_buildP pl_49 hi49 hz49 rfl rfl)) ?_
      refine .R func91 results91 rfl ?_
      cases H
      cases HK1
      exact .m rfl (.tupD rfl)
     ·obtain ⟨hk4,H⟩:=ck_some H
      refine .A 7 [.i (v5l1+1)] rfl (g_addI rfl rfl hk4) ?_
      cases H
      exact .t 2 0 (ih1 (n1,(v5l1+1,(nth v0 (Int.toNat (0))).source,(nth v0 (Int.toNat (0))).serial,(nth v0 (Int.toNat (0))).kind,(nth v0 (Int.toNat (0))).a,(nth v0 (Int.toNat (0))).b,(nth v0 (Int.toNat (0))).start,o1c6l1+((nth v0 v5l1.toNat).units),(nth v0 (Int.toNat (0))).trunk,(nth v0 (Int.toNat (0))).inbound)) HK1 hm1) rfl rfl rfl rfl rfl hS rfl
  ·refine .A 1 [] rfl trivial ?_
   obtain ⟨q0,H9,hq0⟩:=map_some' H; clear H; cases hq0
   cases HK1
   have H:=H9
   exact .z (hj1x (o1c0l1,o1c1l1,o1c2l1,o1c3l1,o1c4l1,o1c5l1,o1c6l1,o1c10l1,o1c11l1) H) rfl rfl
theorem c_f_r15_Complete {v0parts:List Record} {r:Record×Bool} (H:f_r15_Complete v0parts=some r):ACall prog 61 [slOf 12 Record.row v0parts] (·=.tup [.agg (Record.row r.1),cB r.2]):=by
 obtain ⟨i49,hi49,hz49,hs49,hb49⟩:=in_49
 refine ACall.enter' func61 rfl ntmps61 rfl fun S hS=>?_
 unfold f_r15_Complete at H
 refine .A 10 [.r 0] rfl trivial ?_
 refine .blockJoin2 (ι:=Unit) (fun _=>[(0,.d (slOf 12 Record.row v0parts)),(2,.ref 0 0)]) (fun _=>⟨[.row 49 [.d (cI 0),.d (cI 0),.d (cI 0),.d (cS ([]:List UInt8)),.d (cS ([]:List UInt8)),.d (cI 0),.d (cI 0),.d (cI 0),.d (cI 0),.d (cB false),.d (cI 0),.d (cB false)]],[]⟩) (fun s=>f_r15_Complete_j1 v0parts=some r) ?_ ?_
 ·rintro _ H
  replace H:f_r15_Complete_j1 v0parts=some r:=H
  unfold f_r15_Complete_j1 at H
  obtain ⟨y1,hy1,H⟩:=bind_some' H
  refine .A 9 [.d (.tup [.agg (Record.row y1.1),cB y1.2])] rfl (g_call (en 64 rfl) rfl rfl (c_f_r15_whole (hy1))) ?_
  refine .R func61 results61 rfl ?_
  cases H
  exact .m rfl (.tupD rfl)
 ·intro hj1 hj1x
  obtain ⟨n1,H⟩:=loop_some H
  refine .loop (ι:=Nat×(Int)) (fun ⟨_,v4il1⟩=>[(0,.d (slOf 12 Record.row v0parts)),(2,.ref 0 0),(4,.d (cI v4il1))]) (fun ⟨_,v4il1⟩=>⟨[.row 49 [.d (cI 0),.d (cI 0),.d (cI 0),.d (cS ([]:List UInt8)),.d (cS ([]:List UInt8)),.d (cI 0),.d (cI 0),.d (cI 0),.d (cI 0),.d (cB false),.d (cI 0),.d (cB false)]],[]⟩) (fun p=>iter (fun s=>f_r15_Complete_l1 v0parts s) p.1 p.2=some r) (·.1) (n1,0) H (.cons rfl (.rfl' _) (.cons rfl (.rfl' _) (.cons rfl (.rfl' _) (.nil)))) rfl ?_
  rintro ⟨m1,v4il1⟩ HI ih1
  obtain ⟨n1,q1,hm1,H,HK1⟩:=iter_succ HI
  clear HI
  replace H:f_r15_Complete_l1 v0parts v4il1=some q1:=H
  unfold f_r15_Complete_l1 at H
  refine .A 8 [.i (v0parts.length:Int)] rfl (s23.n rfl rfl) ?_
  refine .ite H rfl (fun H=>?_) (fun H=>?_)
  ·obtain ⟨hk1,H⟩:=ck_some H
   obtain ⟨hk2,H⟩:=ck_some H
   obtain ⟨hk3,H⟩:=ck_some H
   obtain ⟨hk4,H⟩:=ck_some H
   refine .A 27 [.d (.ro (Record.row (nth v0parts v4il1.toNat))),.i (v4il1+1),.d (.ro (Record.row (nth v0parts v4il1.toNat))),.i (v4il1+1),.i (v0parts.length:Int),.b (((nth v0parts v4il1.toNat).last) != ((v4il1+1)==(v0parts.length:Int)))] rfl ⟨rfl,fun hg=>OpQ.g (q_bneq rfl underlying4 rfl),rfl,rfl,rfl,rfl,fun hg=>s23.n rfl rfl,rfl,fun hg=>g_addI rfl rfl (hk4 hg),rfl,rfl,rfl,fun hg=>s23.ix rfl rfl rfl (hk3 hg),rfl,rfl,g_addI rfl rfl hk2,s23.ix rfl rfl rfl hk1⟩ ?_
   refine .ite H rfl (fun H=>?_) (fun H=>?_)
   ·refine .A 6 [.d (.agg (Record.row (⟨0,0,0,([]:List UInt8),([]:List UInt8),0,0,0,0,false,0,false⟩:Record)))] rfl (OpQ.g (q_buildP pl_49 hi49 hz49 rfl rfl)) ?_
    refine .R func61 results61 rfl ?_
    cases H
    cases HK1
    exact .m rfl (.tupD rfl)
   ·obtain ⟨hk5,H⟩:=ck_some H
    refine .A 7 [.i (v4il1+1)] rfl (g_addI rfl rfl hk5) ?_
    cases H
    exact .z (ih1 (n1,(v4il1+1)) HK1 hm1) rfl rfl
  ·refine .A 1 [] rfl trivial ?_
   obtain ⟨q0,H9,hq0⟩:=map_some' H; clear H; cases hq0
   cases HK1
   have H:=H9
   exact .z (hj1x () H) rfl rfl
theorem c_f_r15_Open {v0:List Record} {r:Bool} (H:f_r15_Open v0=some r):ACall prog 31 [slOf 12 Record.row v0] (·=cB r):=by
 refine ACall.enter' func31 rfl ntmps31 rfl fun S hS=>?_
 unfold f_r15_Open at H
 refine .A 9 [] rfl trivial ?_
 refine .blockJoin2 (ι:=Unit) (fun _=>[(0,.d (slOf 12 Record.row v0))]) (fun _=>⟨[],[]⟩) (fun s=>f_r15_Open_j1 v0=some r) ?_ ?_
 ·rintro _ H
  replace H:f_r15_Open_j1 v0=some r:=H
  unfold f_r15_Open_j1 at H
  refine .A 6 [] rfl trivial ?_
  obtain ⟨n1,H⟩:=loop_some H
  refine .loop (ι:=Nat×(Int)) (fun ⟨_,v4l1⟩=>[(0,.d (slOf 12 Record.row v0)),(4,.d (cI v4l1))]) (fun ⟨_,v4l1⟩=>⟨[],[]⟩) (fun p=>iter (fun s=>f_r15_Open_l1 v0 s) p.1 p.2=some r) (·.1) (n1,0) H (.cons rfl (.rfl' _) (.cons rfl (.rfl' _) (.nil))) rfl ?_
  rintro ⟨m1,v4l1⟩ HI ih1
  obtain ⟨n1,q1,hm1,H,HK1⟩:=iter_succ HI
  clear HI
  replace H:f_r15_Open_l1 v0 v4l1=some q1:=H
  unfold f_r15_Open_l1 at H
  refine .A 8 [.i (v0.length:Int)] rfl (s23.n rfl rfl) ?_
  refine .ite H rfl (fun H=>?_) (fun H=>?_)
  ·obtain ⟨hk1,H⟩:=ck_some H
   obtain ⟨y1,hy1,H⟩:=bind_some' H
   obtain ⟨y2,hy2,H⟩:=bind_some' H
   obtain ⟨y3,hy3,H⟩:=bind_some' H
   refine .A 34 [.d (.ro (Record.row (nth v0 v4l1.toNat))),.d (slOf 1 rI y1),.d (.tup [slOf 12 Record.row y2.1,slOf 12 Record.row y2.2]),.d (.tup [.agg (Record.row y3.1),cB y3.2]),.r 0] rfl ⟨g_call (en 65 rfl) rfl rfl (c_f_r15_Complete (hy3)),g_call (en 66 rfl) rfl rfl (c_f_r15_pick (hy2)),g_call (en 67 rfl) rfl rfl (c_f_r15_firsts (hy1)),s23.ix rfl rfl rfl hk1⟩ ?_
   refine .ite H rfl (fun H=>?_) (fun H=>?_)
   ·refine .A 4 [] rfl trivial ?_
    refine .R func31 results31 rfl ?_
    cases H
    cases HK1
    exact .m rfl (.rfl' _)
   ·obtain ⟨hk2,H⟩:=ck_some H
    refine .A 7 [.i (v4l1+1)] rfl (g_addI rfl rfl hk2) ?_
    cases H
    exact .t 0 0 (ih1 (n1,(v4l1+1)) HK1 hm1) rfl rfl rfl rfl rfl hS rfl
  ·refine .A 5 [] rfl trivial ?_
   refine .R func31 results31 rfl ?_
   cases H
   cases HK1
   exact .m rfl (.rfl' _)
 ·intro hj1 hj1x
  obtain ⟨n2,H⟩:=loop_some H
  refine .loop (ι:=Nat×(Int)) (fun ⟨_,v3l2⟩=>[(0,.d (slOf 12 Record.row v0)),(3,.d (cI v3l2))]) (fun ⟨_,v3l2⟩=>⟨[],[]⟩) (fun p=>iter (fun s=>f_r15_Open_l2 v0 s) p.1 p.2=some r) (·.1) (n2,0) H (.cons rfl (.rfl' _) (.cons rfl (.rfl' _) (.nil))) rfl ?_
  rintro ⟨m1,v3l2⟩ HI ih1
  obtain ⟨n1,q1,hm1,H,HK1⟩:=iter_succ HI
  clear HI
  replace H:f_r15_Open_l2 v0 v3l2=some q1:=H
  unfold f_r15_Open_l2 at H
  refine .A 8 [.i (v0.length:Int)] rfl (s23.n rfl rfl) ?_
  refine .ite H rfl (fun H=>?_) (fun H=>?_)
  ·obtain ⟨hk3,H⟩:=ck_some H
   obtain ⟨hk4,H⟩:=ck_some H
   obtain ⟨y4,hy4,H⟩:=bind_some' H
   obtain ⟨hk5,H⟩:=ck_some H
   obtain ⟨hk6,H⟩:=ck_some H
   obtain ⟨hk7,H⟩:=ck_some H
   obtain ⟨y5,hy5,H⟩:=bind_some' H
   refine .C 33 [.p 30,.d (.ro (Record.row (nth v0 v3l2.toNat))),.d (.ro (Record.row (nth v0 v3l2.toNat))),.i y4,.d (.ro (Record.row (nth v0 v3l2.toNat))),.i (v3l2-1),.d (.ro (Record.row (nth v0 (v3l2-1).toNat))),.b y5] rfl ⟨fun hg=>g_call (en 68 rfl) rfl rfl (c_f_r15_before (gcall_some hy5 hg)),rfl,rfl,rfl,fun hg=>s23.ix rfl rfl rfl (hk7 hg),rfl,rfl,fun hg=>g_subI rfl rfl (hk6 hg),rfl,rfl,fun hg=>s23.ix rfl rfl rfl (hk5 hg),rfl,rfl,rfl,rfl,rfl,rfl,fun hg=>g_call (en 63 rfl) rfl rfl (c_f_r13_Check (gcall_some hy4 hg)),rfl,rfl,fun hg=>s23.ix rfl rfl rfl (hk4 hg),rfl,rfl,s23.ix rfl rfl rfl hk3,(show drawB _ _=true by kernel_rfl)⟩ ?_
   refine .guardG (env':=[(32,_),(42,_)]) rfl rfl rfl ⟨.inr (.inl rfl),⟨.inr (.inr ⟨_,_,rfl,rfl⟩),trivial⟩⟩ rfl (fun hg=>OpQ.g (q_pickAndB rfl rfl rfl)) ?_
   refine .A 3 [] rfl rfl ?_
   refine .ite H rfl (fun H=>?_) (fun H=>?_)
   ·refine .A 4 [] rfl trivial ?_
    refine .R func31 results31 rfl ?_
    cases H
    cases HK1
    exact .m rfl (.rfl' _)
   ·obtain ⟨hk8,H⟩:=ck_some H
    refine .A 7 [.i (v3l2+1)] rfl (g_addI rfl rfl hk8) ?_
    cases H
    exact .z (ih1 (n1,(v3l2+1)) HK1 hm1) rfl rfl
  ·refine .A 1 [] rfl trivial ?_
   obtain ⟨q0,H9,hq0⟩:=map_some' H; clear H; cases hq0
   cases HK1
   have H:=H9
   exact .z (hj1x () H) rfl rfl
theorem c_f_r16_counted {v0:Intake} {r:Bool} (H:f_r16_counted v0=some r):ACall prog 32 [.agg (Intake.row v0)] (·=cB r):=by
 refine ACall.enter' func32 rfl ntmps32 rfl fun S hS=>?_
 unfold f_r16_counted at H
 refine .A 11 [.r 0] rfl trivial ?_
 obtain ⟨n1,H⟩:=loop_some H
 refine .loop (ι:=Nat×(Int)) (fun ⟨_,v3l1⟩=>[(1,.ref 0 0),(3,.d (cI v3l1))]) (fun ⟨_,v3l1⟩=>⟨[.row 26 [.d (slOf 3 Range.row v0.seen),.d (slOf 12 Record.row v0.open_),.d (slOf 4 Head.row v0.heads)]],[]⟩) (fun p=>iter (fun s=>f_r16_counted_l1 v0 s) p.1 p.2=some r) (·.1) (n1,1) H (.cons rfl (.rfl' _) (.cons rfl (.rfl' _) (.nil))) rfl ?_
 rintro ⟨m1,v3l1⟩ HI ih1
 obtain ⟨n1,q1,hm1,H,HK1⟩:=iter_succ HI
 clear HI
 replace H:f_r16_counted_l1 v0 v3l1=some q1:=H
 unfold f_r16_counted_l1 at H
 refine .A 6 [] rfl trivial ?_
 refine .ite H rfl (fun H=>?_) (fun H=>?_)
 ·refine .A 12 [] rfl trivial ?_
  refine .blockJoin2 (ι:=Int) (fun v4j1=>[(1,.ref 0 0),(3,.d (cI v3l1)),(4,.d (cI v4j1))]) (fun v4j1=>⟨[.row 26 [.d (slOf 3 Range.row v0.seen),.d (slOf 12 Record.row v0.open_),.d (slOf 4 Head.row v0.heads)]],[]⟩) (fun s=>f_r16_counted_j1 v0 v3l1 s=some q1) ?_ ?_
  ·rintro v4j1 H
   replace H:f_r16_counted_j1 v0 v3l1 v4j1=some q1:=H
   unfold f_r16_counted_j1 at H
   refine .A 5 [] rfl trivial ?_
   refine .blockJoin2 (ι:=Int) (fun v4j2=>[(1,.ref 0 0),(3,.d (cI v3l1)),(4,.d (cI v4j2))]) (fun v4j2=>⟨[.row 26 [.d (slOf 3 Range.row v0.seen),.d (slOf 12 Record.row v0.open_),.d (slOf 4 Head.row v0.heads)]],[]⟩) (fun s=>f_r16_counted_j2 v3l1 s=some q1) ?_ ?_
   ·rintro v4j2 H
    replace H:f_r16_counted_j2 v3l1 v4j2=some q1:=H
    unfold f_r16_counted_j2 at H
    refine .A 5 [] rfl trivial ?_
    refine .ite H rfl (fun H=>?_) (fun H=>?_)
    ·refine .A 4 [] rfl trivial ?_
     refine .R func32 results32 rfl ?_
     cases H
     cases HK1
     exact .m rfl (.rfl' _)
    ·obtain ⟨hk1,H⟩:=ck_some H
     refine .A 7 [.i (v3l1+1)] rfl (g_addI rfl rfl hk1) ?_
     cases H
     exact .z (ih1 (n1,(v3l1+1)) HK1 hm1) rfl rfl
   ·intro hj2 hj2x
    obtain ⟨n2,H⟩:=loop_some H
    refine .loop (ι:=Nat×(Int×Int)) (fun ⟨_,v4l2,v6l2⟩=>[(1,.ref 0 0),(3,.d (cI v3l1)),(4,.d (cI v4l2)),(6,.d (cI v6l2))]) (fun ⟨_,v4l2,v6l2⟩=>⟨[.row 26 [.d (slOf 3 Range.row v0.seen),.d (slOf 12 Record.row v0.open_),.d (slOf 4 Head.row v0.heads)]],[]⟩) (fun p=>iter (fun s=>f_r16_counted_l2 v0 v3l1 s.1 s.2) p.1 p.2=some q1) (·.1) (n2,(v4j1,0)) H (.cons rfl (.rfl' _) (.cons rfl (.rfl' _) (.cons rfl (.rfl' _) (.cons rfl (.rfl' _) (.nil))))) rfl ?_
    rintro ⟨m2,v4l2,v6l2⟩ HI ih2
    obtain ⟨n2,q2,hm2,H,HK2⟩:=iter_succ HI
    clear HI
    replace H:f_r16_counted_l2 v0 v3l1 v4l2 v6l2=some q2:=H
    unfold f_r16_counted_l2 at H
    refine .A 9 [.i (v0.heads.length:Int)] rfl (s24.n rfl rfl) ?_
    refine .ite H rfl (fun H=>?_) (fun H=>?_)
    ·obtain ⟨hk2,H⟩:=ck_some H
     refine .A 14 [.d (.ro (Head.row (nth v0.heads v6l2.toNat)))] rfl (s24.ix rfl rfl rfl hk2) ?_
     refine .ite H rfl (fun H=>?_) (fun H=>?_)
     ·obtain ⟨hk3,H⟩:=ck_some H
      obtain ⟨hk4,H⟩:=ck_some H
      obtain ⟨hk5,H⟩:=ck_some H
      refine .A 17 [.d (.ro (Head.row (nth v0.heads v6l2.toNat))),.i (v4l2-((nth v0.heads v6l2.toNat).count)),.i (v6l2+1)] rfl ⟨g_addI rfl rfl hk5,g_subI rfl rfl hk4,s24.ix rfl rfl rfl hk3⟩ ?_
      cases H
      exact .z (ih2 (n2,(v4l2-((nth v0.heads v6l2.toNat).count),v6l2+1)) HK2 hm2) rfl rfl
     ·obtain ⟨hk6,H⟩:=ck_some H
      refine .A 7 [.i (v6l2+1)] rfl (g_addI rfl rfl hk6) ?_
      cases H
      exact .z (ih2 (n2,(v4l2,v6l2+1)) HK2 hm2) rfl rfl
    ·refine .A 1 [] rfl trivial ?_
     obtain ⟨q0,H9,hq0⟩:=map_some' H; clear H; cases hq0
     cases HK2
     have H:=H9
     exact .z (hj2x v4l2 H) rfl rfl
  ·intro hj1 hj1x
   obtain ⟨n3,H⟩:=loop_some H
   refine .loop (ι:=Nat×(Int×Int)) (fun ⟨_,v4l3,v5l3⟩=>[(1,.ref 0 0),(3,.d (cI v3l1)),(4,.d (cI v4l3)),(5,.d (cI v5l3))]) (fun ⟨_,v4l3,v5l3⟩=>⟨[.row 26 [.d (slOf 3 Range.row v0.seen),.d (slOf 12 Record.row v0.open_),.d (slOf 4 Head.row v0.heads)]],[]⟩) (fun p=>iter (fun s=>f_r16_counted_l3 v0 v3l1 s.1 s.2) p.1 p.2=some q1) (·.1) (n3,(0,0)) H (.cons rfl (.rfl' _) (.cons rfl (.rfl' _) (.cons rfl (.rfl' _) (.cons rfl (.rfl' _) (.nil))))) rfl ?_
   rintro ⟨m2,v4l3,v5l3⟩ HI ih2
   obtain ⟨n2,q2,hm2,H,HK2⟩:=iter_succ HI
   clear HI
   replace H:f_r16_counted_l3 v0 v3l1 v4l3 v5l3=some q2:=H
   unfold f_r16_counted_l3 at H
   refine .A 9 [.i (v0.seen.length:Int)] rfl (s22.n rfl rfl) ?_
   refine .ite H rfl (fun H=>?_) (fun H=>?_)
   ·obtain ⟨hk7,H⟩:=ck_some H
    refine .A 14 [.d (.ro (Range.row (nth v0.seen v5l3.toNat)))] rfl (s22.ix rfl rfl rfl hk7) ?_
    refine .ite H rfl (fun H=>?_) (fun H=>?_)
    ·obtain ⟨hk8,H⟩:=ck_some H
     obtain ⟨hk9,H⟩:=ck_some H
     obtain ⟨hk10,H⟩:=ck_some H
     obtain ⟨hk11,H⟩:=ck_some H
     obtain ⟨hk12,H⟩:=ck_some H
     obtain ⟨hk13,H⟩:=ck_some H
     refine .A 26 [.p 17,.d (.ro (Range.row (nth v0.seen v5l3.toNat))),.i (v4l3+((nth v0.seen v5l3.toNat).to_)),.d (.ro (Range.row (nth v0.seen v5l3.toNat))),.i ((v4l3+((nth v0.seen v5l3.toNat).to_)) - ((nth v0.seen v5l3.toNat).from_)),.i (((v4l3+((nth v0.seen v5l3.toNat).to_)) - ((nth v0.seen v5l3.toNat).from_))+1),.i (v5l3+1)] rfl ⟨g_addI rfl rfl hk13,g_addI rfl rfl hk12,g_subI rfl rfl hk11,s22.ix rfl rfl rfl hk10,g_addI rfl rfl hk9,s22.ix rfl rfl rfl hk8,(show drawB _ _=true by kernel_rfl)⟩ ?_
     cases H
     exact .z (ih2 (n2,(((v4l3+((nth v0.seen v5l3.toNat).to_)) - ((nth v0.seen v5l3.toNat).from_))+1,v5l3+1)) HK2 hm2) rfl rfl
    ·obtain ⟨hk14,H⟩:=ck_some H
     refine .A 7 [.i (v5l3+1)] rfl (g_addI rfl rfl hk14) ?_
     cases H
     exact .z (ih2 (n2,(v4l3,v5l3+1)) HK2 hm2) rfl rfl
   ·refine .A 1 [] rfl trivial ?_
    obtain ⟨q0,H9,hq0⟩:=map_some' H; clear H; cases hq0
    cases HK2
    have H:=H9
    exact .z (hj1x v4l3 H) rfl rfl
 ·refine .A 5 [] rfl trivial ?_
  refine .R func32 results32 rfl ?_
  cases H
  cases HK1
  exact .m rfl (.rfl' _)
set_option maxRecDepth 100000
set_option maxHeartbeats 1000000
theorem c_f_r14_Has {v0seen:List Range} {v1source:Int} {v2serial:Int} {r:Bool} (H:f_r14_Has v0seen v1source v2serial=some r):ACall prog 33 [slOf 3 Range.row v0seen,cI v1source,cI v2serial] (·=cB r):=by
 refine ACall.enter' func33 rfl ntmps33 rfl fun S hS=>?_
 unfold f_r14_Has at H
 refine .A 10 [] rfl trivial ?_
 obtain ⟨n1,H⟩:=loop_some H
 refine .loop (ι:=Nat×(Int)) (fun ⟨_,v7il1⟩=>[(0,.d (slOf 3 Range.row v0seen)),(1,.d (cI v1source)),(2,.d (cI v2serial)),(7,.d (cI v7il1))]) (fun ⟨_,v7il1⟩=>⟨[],[]⟩) (fun p=>iter (fun s=>f_r14_Has_l1 v0seen v1source v2serial s) p.1 p.2=some r) (·.1) (n1,0) H (.cons rfl (.rfl' _) (.cons rfl (.rfl' _) (.cons rfl (.rfl' _) (.cons rfl (.rfl' _) (.nil))))) rfl ?_
 rintro ⟨m1,v7il1⟩ HI ih1
 obtain ⟨n1,q1,hm1,H,HK1⟩:=iter_succ HI
 clear HI
 replace H:f_r14_Has_l1 v0seen v1source v2serial v7il1=some q1:=H
 unfold f_r14_Has_l1 at H
 refine .A 8 [.i (v0seen.length:Int)] rfl (s22.n rfl rfl) ?_
 refine .ite H rfl (fun H=>?_) (fun H=>?_)
 ·obtain ⟨hk1,H⟩:=ck_some H
  obtain ⟨hk2,H⟩:=ck_some H
  obtain ⟨hk3,H⟩:=ck_some H
  refine .A 31 [.d (.ro (Range.row (nth v0seen v7il1.toNat))),.d (.ro (Range.row (nth v0seen v7il1.toNat))),.d (.ro (Range.row (nth v0seen v7il1.toNat)))] rfl ⟨rfl,rfl,rfl,rfl,rfl,fun hg=>s22.ix rfl rfl rfl (hk3 hg),rfl,rfl,rfl,rfl,rfl,rfl,rfl,fun hg=>s22.ix rfl rfl rfl (hk2 hg),rfl,rfl,s22.ix rfl rfl rfl hk1⟩ ?_
  refine .ite H rfl (fun H=>?_) (fun H=>?_)
  ·obtain ⟨y1,hy1,H⟩:=bind_some' H
   refine .A 7 [.b y1] rfl (g_call (en 58 rfl) rfl rfl (c_f_r14_identity (hy1))) ?_
   refine .R func33 results33 rfl ?_
   cases H
   cases HK1
   exact .m rfl (.rfl' _)
  ·obtain ⟨hk4,H⟩:=ck_some H
   refine .A 7 [.i (v7il1+1)] rfl (g_addI rfl rfl hk4) ?_
   cases H
   exact .z (ih1 (n1,(v7il1+1)) HK1 hm1) rfl rfl
 ·refine .A 5 [] rfl trivial ?_
  refine .R func33 results33 rfl ?_
  cases H
  cases HK1
  exact .m rfl (.rfl' _)
theorem c_f_r16_Check {v0:Intake} {r:Bool} (H:f_r16_Check v0=some r):ACall prog 12 [.agg (Intake.row v0)] (·=cB r):=by
 refine ACall.enter' func12 rfl ntmps12 rfl fun S hS=>?_
 unfold f_r16_Check at H
 obtain ⟨y1,hy1,H⟩:=bind_some' H
 obtain ⟨y2,hy2,H⟩:=bind_some' H
 obtain ⟨y3,hy3,H⟩:=bind_some' H
 obtain ⟨y4,hy4,H⟩:=bind_some' H
 refine .A 29 [.r 0,.b y1,.b y2,.b y3,.b y4] rfl ⟨rfl,rfl,fun hg=>g_call (en 69 rfl) rfl rfl (c_f_r16_counted (gcall_some hy4 hg)),rfl,rfl,rfl,fun hg=>g_call (en 70 rfl) rfl rfl (c_f_r15_Open (gcall_some hy3 hg)),rfl,rfl,rfl,rfl,fun hg=>g_call (en 71 rfl) rfl rfl (c_f_r14_Check (gcall_some hy2 hg)),rfl,rfl,g_call (en 72 rfl) rfl rfl (c_f_r16_heads (hy1))⟩ ?_
 refine .ite H rfl (fun H=>?_) (fun H=>?_)
 ·refine .A 4 [] rfl trivial ?_
  refine .R func12 results12 rfl ?_
  cases H
  exact .m rfl (.rfl' _)
 ·refine .A 7 [] rfl trivial ?_
  obtain ⟨n1,H⟩:=loop_some H
  refine .loop (ι:=Nat×(Int)) (fun ⟨_,v3l1⟩=>[(1,.ref 0 0),(3,.d (cI v3l1))]) (fun ⟨_,v3l1⟩=>⟨[.row 26 [.d (slOf 3 Range.row v0.seen),.d (slOf 12 Record.row v0.open_),.d (slOf 4 Head.row v0.heads)]],[]⟩) (fun p=>iter (fun s=>f_r16_Check_l1 v0 s) p.1 p.2=some r) (·.1) (n1,0) H (.cons rfl (.rfl' _) (.cons rfl (.rfl' _) (.nil))) rfl ?_
  rintro ⟨m1,v3l1⟩ HI ih1
  obtain ⟨n1,q1,hm1,H,HK1⟩:=iter_succ HI
  clear HI
  replace H:f_r16_Check_l1 v0 v3l1=some q1:=H
  unfold f_r16_Check_l1 at H
  refine .A 9 [.i (v0.open_.length:Int)] rfl (s23.n rfl rfl) ?_
  refine .ite H rfl (fun H=>?_) (fun H=>?_)
  ·obtain ⟨hk1,H⟩:=ck_some H
   obtain ⟨y5,hy5,H⟩:=bind_some' H
   refine .A 25 [.d (.ro (Record.row (nth v0.open_ v3l1.toNat))),.r 1,.b y5] rfl ⟨g_call (en 73 rfl) rfl rfl (c_f_r14_Has (hy5)),s23.ix rfl rfl rfl hk1⟩ ?_
   refine .ite H rfl (fun H=>?_) (fun H=>?_)
   ·refine .A 4 [] rfl trivial ?_
    refine .R func12 results12 rfl ?_
    cases H
    cases HK1
    exact .m rfl (.rfl' _)
   ·refine .A 6 [] rfl trivial ?_
    obtain ⟨n2,H⟩:=loop_some H
    refine .loop (ι:=Nat×(Int)) (fun ⟨_,v5l2⟩=>[(1,.ref 0 0),(3,.d (cI v3l1)),(4,.ref 1 0),(5,.d (cI v5l2))]) (fun ⟨_,v5l2⟩=>⟨[.row 26 [.d (slOf 3 Range.row v0.seen),.d (slOf 12 Record.row v0.open_),.d (slOf 4 Head.row v0.heads)],.row 49 [.d (cI ((nth v0.open_ v3l1.toNat).source)),.d (cI ((nth v0.open_ v3l1.toNat).serial)),.d (cI ((nth v0.open_ v3l1.toNat).kind)),.d (cS ((nth v0.open_ v3l1.toNat).a)),.d (cS ((nth v0.open_ v3l1.toNat).b)),.d (cI ((nth v0.open_ v3l1.toNat).start)),.d (cI ((nth v0.open_ v3l1.toNat).units)),.d (cI ((nth v0.open_ v3l1.toNat).call)),.d (cI ((nth v0.open_ v3l1.toNat).part)),.d (cB ((nth v0.open_ v3l1.toNat).last)),.d (cI ((nth v0.open_ v3l1.toNat).trunk)),.d (cB ((nth v0.open_ v3l1.toNat).inbound))]],[]⟩) (fun p=>iter (fun s=>f_r16_Check_l2 v0 v3l1 s) p.1 p.2=some q1) (·.1) (n2,0) H (.cons rfl (.rfl' _) (.cons rfl (.rfl' _) (.cons rfl (.rfl' _) (.cons rfl (.rfl' _) (.nil))))) rfl ?_
    rintro ⟨m2,v5l2⟩ HI ih2
    obtain ⟨n2,q2,hm2,H,HK2⟩:=iter_succ HI
    clear HI
    replace H:f_r16_Check_l2 v0 v3l1 v5l2=some q2:=H
    unfold f_r16_Check_l2 at H
    refine .A 7 [] rfl trivial ?_
    refine .ite H rfl (fun H=>?_) (fun H=>?_)
    ·obtain ⟨hk2,H⟩:=ck_some H
     obtain ⟨hk3,H⟩:=ck_some H
     refine .A 27 [.p 20,.d (.ro (Record.row (nth v0.open_ v5l2.toNat))),.d (.ro (Record.row (nth v0.open_ v5l2.toNat)))] rfl ⟨rfl,rfl,rfl,rfl,rfl,rfl,fun hg=>s23.ix rfl rfl rfl (hk3 hg),rfl,rfl,rfl,s23.ix rfl rfl rfl hk2,(show drawB _ _=true by kernel_rfl)⟩ ?_
     refine .ite H rfl (fun H=>?_) (fun H=>?_)
     ·refine .A 4 [] rfl trivial ?_
      refine .R func12 results12 rfl ?_
      cases H
      cases HK2
      cases HK1
      exact .m rfl (.rfl' _)
     ·obtain ⟨hk4,H⟩:=ck_some H
      refine .A 7 [.i (v5l2+1)] rfl (g_addI rfl rfl hk4) ?_
      cases H
      exact .z (ih2 (n2,(v5l2+1)) HK2 hm2) rfl rfl
    ·obtain ⟨hk5,H⟩:=ck_some H
     refine .A 7 [.i (v3l1+1)] rfl (g_addI rfl rfl hk5) ?_
     cases H
     cases HK2
     exact .t 1 0 (ih1 (n1,(v3l1+1)) HK1 hm1) rfl rfl rfl rfl rfl hS rfl
  ·refine .A 5 [] rfl trivial ?_
   refine .R func12 results12 rfl ?_
   cases H
   cases HK1
   exact .m rfl (.rfl' _)
theorem c_f_r16_Next {v0in:Intake} {v1source:Int} {r:Int} (H:f_r16_Next v0in v1source=some r):ACall prog 14 [.agg (Intake.row v0in),cI v1source] (·=cI r):=by
 refine ACall.enter' func14 rfl ntmps14 rfl fun S hS=>?_
 unfold f_r16_Next at H
 refine .A 15 [.r 0] rfl ⟨rfl,rfl⟩ ?_
 refine .ite H rfl (fun H=>?_) (fun H=>?_)
 ·refine .A 4 [] rfl trivial ?_
  refine .R func14 results14 rfl ?_
  cases H
  exact .m rfl (.rfl' _)
 ·obtain ⟨y1,hy1,H⟩:=bind_some' H
  refine .A 12 [.i (v0in.heads.length:Int),.i y1] rfl ⟨g_call (en 57 rfl) rfl rfl (c_f_r16_next (hy1)),s24.n rfl rfl⟩ ?_
  refine .R func14 results14 rfl ?_
  cases H
  exact .m rfl (.rfl' _)
theorem c_f_r12_head {v0source:Int} {v1number:Int} {v2format:Int} {r:Int} (H:f_r12_head v0source v1number v2format=some r):ACall prog 78 [cI v0source,cI v1number,cI v2format] (·=cI r):=by
 refine ACall.enter' func78 rfl ntmps78 rfl fun S hS=>?_
 unfold f_r12_head at H
 refine .A 22 [] rfl ⟨rfl,rfl,rfl,rfl,rfl,rfl⟩ ?_
 refine .ite H rfl (fun H=>?_) (fun H=>?_)
 ·refine .A 4 [] rfl trivial ?_
  refine .R func78 results78 rfl ?_
  cases H
  exact .m rfl (.rfl' _)
 ·refine .A 11 [] rfl ⟨rfl,rfl⟩ ?_
  refine .ite H rfl (fun H=>?_) (fun H=>?_)
  ·refine .A 4 [] rfl trivial ?_
   refine .R func78 results78 rfl ?_
   cases H
   exact .m rfl (.rfl' _)
  ·refine .A 5 [] rfl trivial ?_
   refine .R func78 results78 rfl ?_
   cases H
   exact .m rfl (.rfl' _)
theorem c_f_r12_Check {v0b:Batch} {r:Int} (H:f_r12_Check v0b=some r):ACall prog 43 [.agg (Batch.row v0b)] (·=cI r):=by
 refine ACall.enter' func43 rfl ntmps43 rfl fun S hS=>?_
 unfold f_r12_Check at H
 obtain ⟨y1,hy1,H⟩:=bind_some' H
 refine .A 22 [.r 0,.i y1] rfl (g_call (en 78 rfl) rfl rfl (c_f_r12_head (hy1))) ?_
 refine .ite H rfl (fun H=>?_) (fun H=>?_)
 ·refine .A 5 [] rfl trivial ?_
  refine .R func43 results43 rfl ?_
  cases H
  exact .m rfl (.rfl' _)
 ·refine .A 9 [.i (v0b.records.length:Int)] rfl (s23.n rfl rfl) ?_
  refine .ite H rfl (fun H=>?_) (fun H=>?_)
  ·refine .A 4 [] rfl trivial ?_
   refine .R func43 results43 rfl ?_
   cases H
   exact .m rfl (.rfl' _)
  ·refine .A 7 [] rfl trivial ?_
   obtain ⟨n1,H⟩:=loop_some H
   refine .loop (ι:=Nat×(Int)) (fun ⟨_,v4il1⟩=>[(1,.ref 0 0),(4,.d (cI v4il1))]) (fun ⟨_,v4il1⟩=>⟨[.row 34 [.d (cI v0b.source),.d (cI v0b.number),.d (cI v0b.format),.d (slOf 12 Record.row v0b.records)]],[]⟩) (fun p=>iter (fun s=>f_r12_Check_l1 v0b s) p.1 p.2=some r) (·.1) (n1,0) H (.cons rfl (.rfl' _) (.cons rfl (.rfl' _) (.nil))) rfl ?_
   rintro ⟨m1,v4il1⟩ HI ih1
   obtain ⟨n1,q1,hm1,H,HK1⟩:=iter_succ HI
   clear HI
   replace H:f_r12_Check_l1 v0b v4il1=some q1:=H
   unfold f_r12_Check_l1 at H
   refine .A 9 [.i (v0b.records.length:Int)] rfl (s23.n rfl rfl) ?_
   refine .ite H rfl (fun H=>?_) (fun H=>?_)
   ·obtain ⟨hk1,H⟩:=ck_some H
    obtain ⟨y2,hy2,H⟩:=bind_some' H
    refine .A 19 [.d (.ro (Record.row (nth v0b.records v4il1.toNat))),.i y2] rfl ⟨g_call (en 61 rfl) rfl rfl (c_f_r09_Error (hy2)),s23.ix rfl rfl rfl hk1⟩ ?_
    refine .ite H rfl (fun H=>?_) (fun H=>?_)
    ·refine .A 5 [] rfl trivial ?_
     refine .R func43 results43 rfl ?_
     cases H
     cases HK1
     exact .m rfl (.rfl' _)
    ·obtain ⟨hk2,H⟩:=ck_some H
     refine .A 14 [.p 9,.d (.ro (Record.row (nth v0b.records v4il1.toNat)))] rfl ⟨s23.ix rfl rfl rfl hk2,(show drawB _ _=true by kernel_rfl)⟩ ?_
     refine .ite H rfl (fun H=>?_) (fun H=>?_)
     ·refine .A 4 [] rfl trivial ?_
      refine .R func43 results43 rfl ?_
      cases H
      cases HK1
      exact .m rfl (.rfl' _)
     ·obtain ⟨hk3,H⟩:=ck_some H
      refine .A 7 [.i (v4il1+1)] rfl (g_addI rfl rfl hk3) ?_
      cases H
      exact .z (ih1 (n1,(v4il1+1)) HK1 hm1) rfl rfl
   ·refine .A 5 [] rfl trivial ?_
    refine .R func43 results43 rfl ?_
    cases H
    cases HK1
    exact .m rfl (.rfl' _)
theorem c_f_r13_Window {v0r:Record} {v1w:Window} {r:Int} (H:f_r13_Window v0r v1w=some r):ACall prog 22 [.agg (Record.row v0r),.agg (Window.row v1w)] (·=cI r):=by
 refine ACall.enter' func22 rfl ntmps22 rfl fun S hS=>?_
 unfold f_r13_Window at H
 refine .A 22 [.r 0,.r 1] rfl ⟨rfl,rfl,rfl,rfl,rfl⟩ ?_
 refine .ite H rfl (fun H=>?_) (fun H=>?_)
 ·refine .A 4 [] rfl trivial ?_
  refine .R func22 results22 rfl ?_
  cases H
  exact .m rfl (.rfl' _)
 ·refine .A 5 [] rfl trivial ?_
  refine .R func22 results22 rfl ?_
  cases H
  exact .m rfl (.rfl' _)
theorem c_f_r14_Add {v0:List Range} {v1:Int} {v2:Int} {r:(List Range)×Bool} (H:f_r14_Add v0 v1 v2=some r):ACall prog 44 [slOf 3 Range.row v0,cI v1,cI v2] (·=.tup [slOf 3 Range.row r.1,cB r.2]):=by
 obtain ⟨i65,hi65,hz65,hs65,hb65⟩:=in_65
 refine ACall.enter' func44 rfl ntmps44 rfl fun S hS=>?_
 unfold f_r14_Add at H
 obtain ⟨y1,hy1,H⟩:=bind_some' H
 obtain ⟨y2,hy2,H⟩:=bind_some' H
 refine .A 19 [.b y1,.b y2] rfl ⟨rfl,fun hg=>g_call (en 73 rfl) rfl rfl (c_f_r14_Has (gcall_some hy2 hg)),rfl,rfl,rfl,g_call (en 58 rfl) rfl rfl (c_f_r14_identity (hy1))⟩ ?_
 refine .ite H rfl (fun H=>?_) (fun H=>?_)
 ·refine .A 5 [] rfl trivial ?_
  refine .R func44 results44 rfl ?_
  cases H
  exact .m rfl (.tupL ⟨.nil 3,.rfl' _,trivial⟩)
 ·refine .A 23 [.d (.agg (Range.row (⟨v1,v2,v2⟩:Range))),.r 0] rfl (OpQ.g (q_buildP pl_65 hi65 hz65 rfl rfl)) ?_
  refine .tok (i:=8) (e:=65) (sz:=3) rfl ?_
  refine .blockJoin2 (ι:=List Range×Bool×Int×Int) (fun ⟨v8j1,v10j1,o0c1j1,o0c2j1⟩=>[(8,.tsl 3 (v8j1.map Range.row) 0),(9,.ref 0 0),(10,.d (cB v10j1))]) (fun ⟨v8j1,v10j1,o0c1j1,o0c2j1⟩=>⟨[.row 65 [.d (cI v1),.d (cI o0c1j1),.d (cI o0c2j1)]],[⟨65,3,v8j1.length,none⟩]⟩) (fun s=>f_r14_Add_j1 v1 s.1 s.2.1 s.2.2.1 s.2.2.2=some r) ?_ ?_
  ·rintro ⟨v8j1,v10j1,o0c1j1,o0c2j1⟩ H
   replace H:f_r14_Add_j1 v1 v8j1 v10j1 o0c1j1 o0c2j1=some r:=H
   unfold f_r14_Add_j1 at H
   refine .A 6 [] rfl trivial ?_
   refine .ite H rfl (fun H=>?_) (fun H=>?_)
   ·obtain ⟨hk1,H⟩:=ck_some H
    refine .A 13 [.d (slOf 3 Range.row ([(⟨v1,o0c1j1,o0c2j1⟩:Range)]:List Range)),.a 0 65 3 Range.row (v8j1++([(⟨v1,o0c1j1,o0c2j1⟩:Range)]:List Range))] rfl ⟨s22.a rfl rfl rfl rfl hk1,g_buildSlice1 underlying22 hi65 hs65 hz65 rfl rfl rfl rfl rfl⟩ ?_
    refine .R func44 results44 rfl ?_
    cases H
    exact .m rfl (.tupL ⟨.tsl _ _ _,.rfl' _,trivial⟩)
   ·refine .A 7 [] rfl trivial ?_
    refine .R func44 results44 rfl ?_
    cases H
    exact .m rfl (.tupL ⟨.tsl _ _ _,.rfl' _,trivial⟩)
  ·intro hj1 hj1x
   obtain ⟨n1,H⟩:=loop_some H
   refine .loop (ι:=Nat×(List Range×Bool×Int×Int×Int)) (fun ⟨_,v8l1,v10l1,v11l1,o0c1l1,o0c2l1⟩=>[(0,.d (slOf 3 Range.row v0)),(1,.d (cI v1)),(2,.d (cI v2)),(8,.tsl 3 (v8l1.map Range.row) 0),(9,.ref 0 0),(10,.d (cB v10l1)),(11,.d (cI v11l1))]) (fun ⟨_,v8l1,v10l1,v11l1,o0c1l1,o0c2l1⟩=>⟨[.row 65 [.d (cI v1),.d (cI o0c1l1),.d (cI o0c2l1)]],[⟨65,3,v8l1.length,none⟩]⟩) (fun p=>iter (fun s=>f_r14_Add_l1 v0 v1 v2 s.1 s.2.1 s.2.2.1 s.2.2.2.1 s.2.2.2.2) p.1 p.2=some r) (·.1) (n1,(([]:List Range),false,0,v2,v2)) H (.cons rfl (.rfl' _) (.cons rfl (.rfl' _) (.cons rfl (.rfl' _) (.cons rfl (.rfl' _) (.cons rfl (.rfl' _) (.cons rfl (.rfl' _) (.cons rfl (.rfl' _) (.nil)))))))) rfl ?_
   rintro ⟨m1,v8l1,v10l1,v11l1,o0c1l1,o0c2l1⟩ HI ih1
   obtain ⟨n1,q1,hm1,H,HK1⟩:=iter_succ HI
   clear HI
   replace H:f_r14_Add_l1 v0 v1 v2 v8l1 v10l1 v11l1 o0c1l1 o0c2l1=some q1:=H
   unfold f_r14_Add_l1 at H
   refine .A 8 [.i (v0.length:Int)] rfl (s22.n rfl rfl) ?_
   refine .ite H rfl (fun H=>?_) (fun H=>?_)
   ·obtain ⟨hk2,H⟩:=ck_some H
    obtain ⟨hk3,H⟩:=ck_some H
    refine .A 28 [.d (.ro (Range.row (nth v0 v11l1.toNat))),.r 1,.i (((nth v0 v11l1.toNat).to_)+1)] rfl ⟨rfl,rfl,rfl,fun hg=>g_addI rfl rfl (hk3 hg),rfl,rfl,s22.ix rfl rfl rfl hk2⟩ ?_
    refine .ite H rfl (fun H=>?_) (fun H=>?_)
    ·obtain ⟨hk4,H⟩:=ck_some H
     refine .A 13 [.i (v11l1+1)] rfl (g_addI rfl rfl hk4) ?_
     cases H
     exact .t 1 1 (ih1 (n1,(v8l1,v10l1,v11l1+1,(nth v0 v11l1.toNat).from_,o0c2l1)) HK1 hm1) rfl rfl rfl rfl rfl hS rfl
    ·obtain ⟨hk5,H⟩:=ck_some H
     refine .A 15 [.i (((nth v0 v11l1.toNat).from_) - 1)] rfl ⟨rfl,rfl,rfl,fun hg=>g_subI rfl rfl (hk5 hg),rfl,rfl⟩ ?_
     refine .ite H rfl (fun H=>?_) (fun H=>?_)
     ·obtain ⟨hk6,H⟩:=ck_some H
      refine .A 13 [.i (v11l1+1)] rfl (g_addI rfl rfl hk6) ?_
      cases H
      exact .t 1 1 (ih1 (n1,(v8l1,v10l1,v11l1+1,o0c1l1,(nth v0 v11l1.toNat).to_)) HK1 hm1) rfl rfl rfl rfl rfl hS rfl
     ·refine .B 19 [] rfl ⟨rfl,rfl,rfl,rfl,rfl,rfl,rfl,rfl,rfl,rfl,rfl⟩ ?_
      refine .guardG (env':=[(85,_),(89,_)]) rfl rfl rfl ⟨.inr (.inl rfl),⟨.inr (.inr ⟨_,_,rfl,rfl⟩),trivial⟩⟩ rfl (fun hg=>OpQ.g (q_pickAndB rfl rfl rfl)) ?_
      refine .A 3 [] rfl rfl ?_
      refine .ite H rfl (fun H=>?_) (fun H=>?_)
      ·obtain ⟨hk7,H⟩:=ck_some H
       obtain ⟨hk8,H⟩:=ck_some H
       refine .A 14 [.d (slOf 3 Range.row ([nth v0 v11l1.toNat]:List Range)),.a 0 65 3 Range.row (v8l1++([nth v0 v11l1.toNat]:List Range)),.i (v11l1+1)] rfl ⟨g_addI rfl rfl hk8,s22.a rfl rfl rfl rfl hk7,g_buildSlice1 underlying22 hi65 hs65 hz65 rfl rfl rfl rfl rfl⟩ ?_
       cases H
       exact .t 1 1 (ih1 (n1,(v8l1++([nth v0 v11l1.toNat]:List Range),v10l1,v11l1+1,o0c1l1,o0c2l1)) HK1 hm1) rfl rfl rfl rfl rfl hS rfl
      ·obtain ⟨hk9,H⟩:=ck_some H
       obtain ⟨hk10,H⟩:=ck_some H
       refine .A 19 [.d (slOf 3 Range.row ([(⟨v1,o0c1l1,o0c2l1⟩:Range),nth v0 v11l1.toNat]:List Range)),.a 0 65 3 Range.row (v8l1++([(⟨v1,o0c1l1,o0c2l1⟩:Range),nth v0 v11l1.toNat]:List Range)),.i (v11l1+1)] rfl ⟨g_addI rfl rfl hk10,s22.a rfl rfl rfl rfl hk9,g_buildSliceN (n:=2) (rows:=([(⟨v1,o0c1l1,o0c2l1⟩:Range),nth v0 v11l1.toNat]:List Range).map Range.row) underlying22 hi65 hs65 hz65 rfl rfl rfl rfl rfl⟩ ?_
       cases H
       exact .t 1 1 (ih1 (n1,(v8l1++([(⟨v1,o0c1l1,o0c2l1⟩:Range),nth v0 v11l1.toNat]:List Range),true,v11l1+1,o0c1l1,o0c2l1)) HK1 hm1) rfl rfl rfl rfl rfl hS rfl
   ·refine .A 1 [] rfl trivial ?_
    obtain ⟨q0,H9,hq0⟩:=map_some' H; clear H; cases hq0
    cases HK1
    have H:=H9
    exact .z (hj1x (v8l1,v10l1,o0c1l1,o0c2l1) H) rfl rfl
theorem c_f_r15_insert {v0open:List Record} {v1p:Record} {r:(List Record)} (H:f_r15_insert v0open v1p=some r):ACall prog 80 [slOf 12 Record.row v0open,.agg (Record.row v1p)] (·=slOf 12 Record.row r):=by
 obtain ⟨i49,hi49,hz49,hs49,hb49⟩:=in_49
 refine ACall.enter' func80 rfl ntmps80 rfl fun S hS=>?_
 unfold f_r15_insert at H
 refine .A 18 [.r 0] rfl trivial ?_
 refine .tok (i:=5) (e:=49) (sz:=12) rfl ?_
 refine .blockJoin2 (ι:=List Record×Bool) (fun ⟨v5outj1,v6donej1⟩=>[(3,.ref 0 0),(5,.tsl 12 (v5outj1.map Record.row) 0),(6,.d (cB v6donej1))]) (fun ⟨v5outj1,v6donej1⟩=>⟨[.row 49 [.d (cI v1p.source),.d (cI v1p.serial),.d (cI v1p.kind),.d (cS v1p.a),.d (cS v1p.b),.d (cI v1p.start),.d (cI v1p.units),.d (cI v1p.call),.d (cI v1p.part),.d (cB v1p.last),.d (cI v1p.trunk),.d (cB v1p.inbound)]],[⟨49,12,v5outj1.length,none⟩]⟩) (fun s=>f_r15_insert_j1 v1p s.1 s.2=some r) ?_ ?_
 ·rintro ⟨v5outj1,v6donej1⟩ H
  replace H:f_r15_insert_j1 v1p v5outj1 v6donej1=some r:=H
  unfold f_r15_insert_j1 at H
  refine .A 6 [] rfl trivial ?_
  refine .ite H rfl (fun H=>?_) (fun H=>?_)
  ·obtain ⟨hk1,H⟩:=ck_some H
   refine .A 12 [.d (slOf 12 Record.row ([v1p]:List Record)),.a 0 49 12 Record.row (v5outj1++([v1p]:List Record))] rfl ⟨s23.a rfl rfl rfl rfl hk1,g_buildSlice1 underlying23 hi49 hs49 hz49 rfl rfl rfl rfl rfl⟩ ?_
   refine .R func80 results80 rfl ?_
   cases H
   exact .m rfl (.tsl _ _ _)
  ·refine .A 6 [] rfl trivial ?_
   refine .R func80 results80 rfl ?_
   cases H
   exact .m rfl (.tsl _ _ _)
 ·intro hj1 hj1x
  obtain ⟨n1,H⟩:=loop_some H
  refine .loop (ι:=Nat×(List Record×Bool×Int)) (fun ⟨_,v5outl1,v6donel1,v7il1⟩=>[(0,.d (slOf 12 Record.row v0open)),(3,.ref 0 0),(5,.tsl 12 (v5outl1.map Record.row) 0),(6,.d (cB v6donel1)),(7,.d (cI v7il1))]) (fun ⟨_,v5outl1,v6donel1,v7il1⟩=>⟨[.row 49 [.d (cI v1p.source),.d (cI v1p.serial),.d (cI v1p.kind),.d (cS v1p.a),.d (cS v1p.b),.d (cI v1p.start),.d (cI v1p.units),.d (cI v1p.call),.d (cI v1p.part),.d (cB v1p.last),.d (cI v1p.trunk),.d (cB v1p.inbound)]],[⟨49,12,v5outl1.length,none⟩]⟩) (fun p=>iter (fun s=>f_r15_insert_l1 v0open v1p s.1 s.2.1 s.2.2) p.1 p.2=some r) (·.1) (n1,(([]:List Record),false,0)) H (.cons rfl (.rfl' _) (.cons rfl (.rfl' _) (.cons rfl (.rfl' _) (.cons rfl (.rfl' _) (.cons rfl (.rfl' _) (.nil)))))) rfl ?_
  rintro ⟨m1,v5outl1,v6donel1,v7il1⟩ HI ih1
  obtain ⟨n1,q1,hm1,H,HK1⟩:=iter_succ HI
  clear HI
  replace H:f_r15_insert_l1 v0open v1p v5outl1 v6donel1 v7il1=some q1:=H
  unfold f_r15_insert_l1 at H
  refine .A 8 [.i (v0open.length:Int)] rfl (s23.n rfl rfl) ?_
  refine .ite H rfl (fun H=>?_) (fun H=>?_)
  ·refine .A 3 [] rfl trivial ?_
   refine .seqJoin (ι:=List Record×Bool) (fun ⟨v5outj2,v6donej2⟩=>[(0,.d (slOf 12 Record.row v0open)),(3,.ref 0 0),(5,.tsl 12 (v5outj2.map Record.row) 0),(6,.d (cB v6donej2)),(7,.d (cI v7il1))]) (fun ⟨v5outj2,v6donej2⟩=>⟨[.row 49 [.d (cI v1p.source),.d (cI v1p.serial),.d (cI v1p.kind),.d (cS v1p.a),.d (cS v1p.b),.d (cI v1p.start),.d (cI v1p.units),.d (cI v1p.call),.d (cI v1p.part),.d (cB v1p.last),.d (cI v1p.trunk),.d (cB v1p.inbound)]],[⟨49,12,v5outj2.length,none⟩]⟩) (fun s=>f_r15_insert_j2 v0open v7il1 s.1 s.2=some q1) ?_ ?_
   ·rintro ⟨v5outj2,v6donej2⟩ H
    replace H:f_r15_insert_j2 v0open v7il1 v5outj2 v6donej2=some q1:=H
    unfold f_r15_insert_j2 at H
    obtain ⟨hk2,H⟩:=ck_some H
    obtain ⟨hk3,H⟩:=ck_some H
    obtain ⟨hk4,H⟩:=ck_some H
    refine .A 16 [.d (.ro (Record.row (nth v0open v7il1.toNat))),.d (slOf 12 Record.row ([nth v0open v7il1.toNat]:List Record)),.a 0 49 12 Record.row (v5outj2++([nth v0open v7il1.toNat]:List Record)),.i (v7il1+1)] rfl ⟨g_addI rfl rfl hk4,s23.a rfl rfl rfl rfl hk3,g_buildSlice1 underlying23 hi49 hs49 hz49 rfl rfl rfl rfl rfl,s23.ix rfl rfl rfl hk2⟩ ?_
    cases H
    exact .z (ih1 (n1,(v5outj2++([nth v0open v7il1.toNat]:List Record),v6donej2,v7il1+1)) HK1 hm1) rfl rfl
   ·intro hj2
    obtain ⟨hk5,H⟩:=ck_some H
    obtain ⟨y1,hy1,H⟩:=bind_some' H
    refine .A 14 [.p 10,.d (.ro (Record.row (nth v0open v7il1.toNat))),.b y1] rfl ⟨rfl,fun hg=>g_call (en 68 rfl) rfl rfl (c_f_r15_before (gcall_some hy1 hg)),rfl,rfl,rfl,fun hg=>s23.ix rfl rfl rfl (hk5 hg),rfl,rfl,(show drawB _ _=true by kernel_rfl)⟩ ?_
    refine .ite H rfl (fun H=>?_) (fun H=>?_)
    ·obtain ⟨hk6,H⟩:=ck_some H
     refine .A 11 [.d (slOf 12 Record.row ([v1p]:List Record)),.a 0 49 12 Record.row (v5outl1++([v1p]:List Record))] rfl ⟨s23.a rfl rfl rfl rfl hk6,g_buildSlice1 underlying23 hi49 hs49 hz49 rfl rfl rfl rfl rfl⟩ ?_
     exact .z (hj2 (v5outl1++([v1p]:List Record),true) H) rfl rfl
    ·refine .A 1 [] rfl trivial ?_
     exact .z (hj2 (v5outl1,v6donel1) H) rfl rfl
  ·refine .A 1 [] rfl trivial ?_
   obtain ⟨q0,H9,hq0⟩:=map_some' H; clear H; cases hq0
   cases HK1
   have H:=H9
   exact .z (hj1x (v5outl1,v6donel1) H) rfl rfl
theorem c_f_r15_Join {v0:List Record} {v1:List Record} {r:(List Record)×(List Record)} (H:f_r15_Join v0 v1=some r):ACall prog 45 [slOf 12 Record.row v0,slOf 12 Record.row v1] (·=.tup [slOf 12 Record.row r.1,slOf 12 Record.row r.2]):=by
 obtain ⟨i49,hi49,hz49,hs49,hb49⟩:=in_49
 refine ACall.enter' func45 rfl ntmps45 rfl fun S hS=>?_
 unfold f_r15_Join at H
 obtain ⟨hk1,H⟩:=ck_some H
 refine .A 22 [.d (.e0 12),.d (slOf 12 Record.row v0)] rfl ⟨g_append0L (l':=v0) (row:=Record.row) underlying23 hi49 hz49 hs49 rfl (by rw [hb49]; decide) rfl (.inl rfl) rfl rfl hk1,(hs49▸g_buildSlice0 underlying23 hi49)⟩ ?_
 refine .tok (i:=6) (e:=49) (sz:=12) rfl ?_
 obtain ⟨n1,H⟩:=loop_some H
 refine .loop (ι:=Nat×(List Record×List Record×Int)) (fun ⟨_,v6l1,v7l1,v8l1⟩=>[(1,.d (slOf 12 Record.row v1)),(6,.tsl 12 (v6l1.map Record.row) 0),(7,.d (slOf 12 Record.row v7l1)),(8,.d (cI v8l1))]) (fun ⟨_,v6l1,v7l1,v8l1⟩=>⟨[],[⟨49,12,v6l1.length,none⟩]⟩) (fun p=>iter (fun s=>f_r15_Join_l1 v1 s.1 s.2.1 s.2.2) p.1 p.2=some r) (·.1) (n1,(([]:List Record),v0,0)) H (.cons rfl (.rfl' _) (.cons rfl (.rfl' _) (.cons rfl (.rfl' _) (.cons rfl (.rfl' _) (.nil))))) rfl ?_
 rintro ⟨m1,v6l1,v7l1,v8l1⟩ HI ih1
 obtain ⟨n1,q1,hm1,H,HK1⟩:=iter_succ HI
 clear HI
 replace H:f_r15_Join_l1 v1 v6l1 v7l1 v8l1=some q1:=H
 unfold f_r15_Join_l1 at H
 refine .A 8 [.i (v1.length:Int)] rfl (s23.n rfl rfl) ?_
 refine .ite H rfl (fun H=>?_) (fun H=>?_)
 ·obtain ⟨hk2,H⟩:=ck_some H
  refine .A 13 [.d (.ro (Record.row (nth v1 v8l1.toNat)))] rfl (s23.ix rfl rfl rfl hk2) ?_
  refine .ite H rfl (fun H=>?_) (fun H=>?_)
  ·obtain ⟨hk3,H⟩:=ck_some H
   obtain ⟨hk4,H⟩:=ck_some H
   obtain ⟨hk5,H⟩:=ck_some H
   refine .A 17 [.d (.ro (Record.row (nth v1 v8l1.toNat))),.d (slOf 12 Record.row ([nth v1 v8l1.toNat]:List Record)),.a 0 49 12 Record.row (v6l1++([nth v1 v8l1.toNat]:List Record)),.i (v8l1+1)] rfl ⟨g_addI rfl rfl hk5,s23.a rfl rfl rfl rfl hk4,g_buildSlice1 underlying23 hi49 hs49 hz49 rfl rfl rfl rfl rfl,s23.ix rfl rfl rfl hk3⟩ ?_
   cases H
   exact .z (ih1 (n1,(v6l1++([nth v1 v8l1.toNat]:List Record),v7l1,v8l1+1)) HK1 hm1) rfl rfl
  ·obtain ⟨hk6,H⟩:=ck_some H
   obtain ⟨y1,hy1,H⟩:=bind_some' H
   refine .A 12 [.d (.ro (Record.row (nth v1 v8l1.toNat))),.d (slOf 12 Record.row y1)] rfl ⟨g_call (en 79 rfl) rfl rfl (c_f_r15_insert (hy1)),s23.ix rfl rfl rfl hk6⟩ ?_
   obtain ⟨n2,H⟩:=loop_some H
   refine .loop (ι:=Nat×(List Record×List Record)) (fun ⟨_,v6l2,v7l2⟩=>[(1,.d (slOf 12 Record.row v1)),(6,.tsl 12 (v6l2.map Record.row) 0),(7,.d (slOf 12 Record.row v7l2)),(8,.d (cI v8l1))]) (fun ⟨_,v6l2,v7l2⟩=>⟨[],[⟨49,12,v6l2.length,none⟩]⟩) (fun p=>iter (fun s=>f_r15_Join_l2 v1 v8l1 s.1 s.2) p.1 p.2=some q1) (·.1) (n2,(v6l1,y1)) H (.cons rfl (.rfl' _) (.cons rfl (.rfl' _) (.cons rfl (.rfl' _) (.cons rfl (.rfl' _) (.nil))))) rfl ?_
   rintro ⟨m2,v6l2,v7l2⟩ HI ih2
   obtain ⟨n2,q2,hm2,H,HK2⟩:=iter_succ HI
   clear HI
   replace H:f_r15_Join_l2 v1 v8l1 v6l2 v7l2=some q2:=H
   unfold f_r15_Join_l2 at H
   obtain ⟨hk7,H⟩:=ck_some H
   obtain ⟨y2,hy2,H⟩:=bind_some' H
   obtain ⟨y3,hy3,H⟩:=bind_some' H
   obtain ⟨y4,hy4,H⟩:=bind_some' H
   refine .A 34 [.d (.ro (Record.row (nth v1 v8l1.toNat))),.d (slOf 1 rI y2),.d (.tup [slOf 12 Record.row y3.1,slOf 12 Record.row y3.2]),.d (.tup [.agg (Record.row y4.1),cB y4.2]),.r 0] rfl ⟨g_call (en 65 rfl) rfl rfl (c_f_r15_Complete (hy4)),g_call (en 66 rfl) rfl rfl (c_f_r15_pick (hy3)),g_call (en 67 rfl) rfl rfl (c_f_r15_firsts (hy2)),s23.ix rfl rfl rfl hk7⟩ ?_
   refine .ite H rfl (fun H=>?_) (fun H=>?_)
   ·obtain ⟨hk8,H⟩:=ck_some H
    refine .A 7 [.i (v8l1+1)] rfl (g_addI rfl rfl hk8) ?_
    cases H
    cases HK2
    exact .t 0 1 (ih1 (n1,(v6l2,v7l2,v8l1+1)) HK1 hm1) rfl rfl rfl rfl rfl hS rfl
   ·obtain ⟨hk9,H⟩:=ck_some H
    refine .A 14 [.d (slOf 12 Record.row ([y4.1]:List Record)),.a 0 49 12 Record.row (v6l2++([y4.1]:List Record))] rfl ⟨s23.a rfl rfl rfl rfl hk9,g_buildSlice1 underlying23 hi49 hs49 hz49 rfl rfl rfl rfl rfl⟩ ?_
    cases H
    exact .t 0 1 (ih2 (n2,(v6l2++([y4.1]:List Record),y3.2)) HK2 hm2) rfl rfl rfl rfl rfl hS rfl
 ·refine .A 8 [] rfl trivial ?_
  refine .R func45 results45 rfl ?_
  cases H
  cases HK1
  exact .m rfl (.tupL ⟨.tsl _ _ _,.rfl' _,trivial⟩)
set_option maxRecDepth 100000
set_option maxHeartbeats 1000000
theorem c_f_r16_Accept {v0:Intake} {v1:Batch} {v2:Window} {r:Intake×(List Record)×(List Reject)×Int} (H:f_r16_Accept v0 v1 v2=some r):ACall prog 17 [.agg (Intake.row v0),.agg (Batch.row v1),.agg (Window.row v2)] (·=.tup [.agg (Intake.row r.1),slOf 12 Record.row r.2.1,slOf 4 Reject.row r.2.2.1,cI r.2.2.2]):=by
 obtain ⟨i26,hi26,hz26,hs26,hb26⟩:=in_26
 obtain ⟨i30,hi30,hz30,hs30,hb30⟩:=in_30
 obtain ⟨i47,hi47,hz47,hs47,hb47⟩:=in_47
 obtain ⟨i49,hi49,hz49,hs49,hb49⟩:=in_49
 obtain ⟨i65,hi65,hz65,hs65,hb65⟩:=in_65
 refine ACall.enter' func17 rfl ntmps17 rfl fun S hS=>?_
 unfold f_r16_Accept at H
 obtain ⟨y1,hy1,H⟩:=bind_some' H
 refine .A 22 [.r 0,.r 1,.r 2,.r 3,.i y1] rfl (g_call (en 80 rfl) rfl rfl (c_f_r12_Check (hy1))) ?_
 refine .ite H rfl (fun H=>?_) (fun H=>?_)
 ·refine .A 9 [.d (.agg (Intake.row (⟨([]:List Range),([]:List Record),([]:List Head)⟩:Intake)))] rfl (OpQ.g (OpQ.le (q_buildP pl_26 hi26 hz26 rfl rfl) (EVle.d (.agg ⟨.nil 3,.nil 12,.nil 4,trivial⟩)))) ?_
  refine .R func17 results17 rfl ?_
  cases H
  exact .m rfl (.tupL ⟨.rfl' _,.nil 12,.nil 4,.rfl' _,trivial⟩)
 ·obtain ⟨y2,hy2,H⟩:=bind_some' H
  refine .A 13 [.p 7,.i y2] rfl ⟨g_call (en 77 rfl) rfl rfl (c_f_r16_Next (hy2)),(show drawB _ _=true by kernel_rfl)⟩ ?_
  refine .ite H rfl (fun H=>?_) (fun H=>?_)
  ·refine .A 8 [.d (.agg (Intake.row (⟨([]:List Range),([]:List Record),([]:List Head)⟩:Intake)))] rfl (OpQ.g (OpQ.le (q_buildP pl_26 hi26 hz26 rfl rfl) (EVle.d (.agg ⟨.nil 3,.nil 12,.nil 4,trivial⟩)))) ?_
   refine .R func17 results17 rfl ?_
   cases H
   exact .m rfl (.tupL ⟨.rfl' _,.nil 12,.nil 4,.rfl' _,trivial⟩)
  ·obtain ⟨hk1,H⟩:=ck_some H
   refine .A 22 [.d (.e0 3),.d (slOf 3 Range.row v0.seen)] rfl ⟨g_append0L (l':=v0.seen) (row:=Range.row) underlying22 hi65 hz65 hs65 rfl (by rw [hb65]; decide) rfl (.inl rfl) rfl rfl hk1,(hs65▸g_buildSlice0 underlying22 hi65)⟩ ?_
   refine .tok (i:=12) (e:=49) (sz:=12) rfl ?_
   refine .tok (i:=13) (e:=47) (sz:=4) rfl ?_
   refine .blockJoin2 (ι:=List Range×List Record×List Reject) (fun ⟨v11j1,v12j1,v13j1⟩=>[(3,.ref 0 0),(4,.ref 1 0),(6,.ref 3 0),(11,.d (slOf 3 Range.row v11j1)),(12,.tsl 12 (v12j1.map Record.row) 0),(13,.tsl 4 (v13j1.map Reject.row) 1)]) (fun ⟨v11j1,v12j1,v13j1⟩=>⟨[.row 26 [.d (slOf 3 Range.row v0.seen),.d (slOf 12 Record.row v0.open_),.d (slOf 4 Head.row v0.heads)],.row 34 [.d (cI v1.source),.d (cI v1.number),.d (cI v1.format),.d (slOf 12 Record.row v1.records)],.row 36 [.d (cI v2.earliest),.d (cI v2.latest)],.row 26 [.d (nilD),.d (nilD),.d (nilD)]],[⟨49,12,v12j1.length,none⟩,⟨47,4,v13j1.length,none⟩]⟩) (fun s=>f_r16_Accept_j1 v0 v1 s.1 s.2.1 s.2.2=some r) ?_ ?_
   ·rintro ⟨v11j1,v12j1,v13j1⟩ H
    replace H:f_r16_Accept_j1 v0 v1 v11j1 v12j1 v13j1=some r:=H
    unfold f_r16_Accept_j1 at H
    obtain ⟨y3,hy3,H⟩:=bind_some' H
    obtain ⟨hk2,H⟩:=ck_some H
    obtain ⟨hk3,H⟩:=ck_some H
    refine .A 50 [.d (.tup [slOf 12 Record.row y3.1,slOf 12 Record.row y3.2]),.n (.tsl 4 (([]:List Head).map Head.row) 2) ⟨30,4,([]:List Head).length,none⟩,.a 2 30 4 Head.row (([]:List Head)++v0.heads),.i (v1.records.length:Int),.d (.agg (Head.row (⟨v1.source,v1.number,v1.format,(v1.records.length:Int)⟩:Head))),.d (slOf 4 Head.row ([(⟨v1.source,v1.number,v1.format,(v1.records.length:Int)⟩:Head)]:List Head)),.a 2 30 4 Head.row ((([]:List Head)++v0.heads)++([(⟨v1.source,v1.number,v1.format,(v1.records.length:Int)⟩:Head)]:List Head)),.d (.agg (Intake.row (⟨v11j1,y3.2,(([]:List Head)++v0.heads)++([(⟨v1.source,v1.number,v1.format,(v1.records.length:Int)⟩:Head)]:List Head)⟩:Intake)))] rfl ⟨OpQ.g (q_buildP pl_26 hi26 hz26 rfl rfl),s24.a rfl rfl rfl rfl hk3,g_buildSlice1 underlying24 hi30 hs30 hz30 rfl rfl rfl rfl rfl,OpQ.g (q_buildP pl_30 hi30 hz30 rfl rfl),s23.n rfl rfl,s24.a rfl rfl rfl rfl hk2,.e (v_build0T underlying24 hi30 hs30) rfl,g_call (en 81 rfl) rfl rfl (c_f_r15_Join (hy3))⟩ ?_
    refine .R func17 results17 rfl ?_
    cases H
    exact .m rfl (.tupL ⟨.rfl' _,.rfl' _,.tsl _ _ _,.rfl' _,trivial⟩)
   ·intro hj1 hj1x
    obtain ⟨n1,H⟩:=loop_some H
    refine .loop (ι:=Nat×(List Range×List Record×List Reject×Int)) (fun ⟨_,v11l1,v12l1,v13l1,v14l1⟩=>[(3,.ref 0 0),(4,.ref 1 0),(5,.ref 2 0),(6,.ref 3 0),(11,.d (slOf 3 Range.row v11l1)),(12,.tsl 12 (v12l1.map Record.row) 0),(13,.tsl 4 (v13l1.map Reject.row) 1),(14,.d (cI v14l1))]) (fun ⟨_,v11l1,v12l1,v13l1,v14l1⟩=>⟨[.row 26 [.d (slOf 3 Range.row v0.seen),.d (slOf 12 Record.row v0.open_),.d (slOf 4 Head.row v0.heads)],.row 34 [.d (cI v1.source),.d (cI v1.number),.d (cI v1.format),.d (slOf 12 Record.row v1.records)],.row 36 [.d (cI v2.earliest),.d (cI v2.latest)],.row 26 [.d (nilD),.d (nilD),.d (nilD)]],[⟨49,12,v12l1.length,none⟩,⟨47,4,v13l1.length,none⟩]⟩) (fun p=>iter (fun s=>f_r16_Accept_l1 v0 v1 v2 s.1 s.2.1 s.2.2.1 s.2.2.2) p.1 p.2=some r) (·.1) (n1,(v0.seen,([]:List Record),([]:List Reject),0)) H (.cons rfl (.rfl' _) (.cons rfl (.rfl' _) (.cons rfl (.rfl' _) (.cons rfl (.rfl' _) (.cons rfl (.rfl' _) (.cons rfl (.rfl' _) (.cons rfl (.rfl' _) (.cons rfl (.rfl' _) (.nil))))))))) rfl ?_
    rintro ⟨m1,v11l1,v12l1,v13l1,v14l1⟩ HI ih1
    obtain ⟨n1,q1,hm1,H,HK1⟩:=iter_succ HI
    clear HI
    replace H:f_r16_Accept_l1 v0 v1 v2 v11l1 v12l1 v13l1 v14l1=some q1:=H
    unfold f_r16_Accept_l1 at H
    refine .A 9 [.i (v1.records.length:Int)] rfl (s23.n rfl rfl) ?_
    refine .ite H rfl (fun H=>?_) (fun H=>?_)
    ·obtain ⟨hk4,H⟩:=ck_some H
     obtain ⟨y4,hy4,H⟩:=bind_some' H
     refine .A 20 [.d (.ro (Record.row (nth v1.records v14l1.toNat))),.r 4,.i y4] rfl ⟨g_call (en 82 rfl) rfl rfl (c_f_r13_Window (hy4)),s23.ix rfl rfl rfl hk4⟩ ?_
     refine .seqJoin (ι:=Int) (fun v16j2=>[(3,.ref 0 0),(4,.ref 1 0),(5,.ref 2 0),(6,.ref 3 0),(11,.d (slOf 3 Range.row v11l1)),(12,.tsl 12 (v12l1.map Record.row) 0),(13,.tsl 4 (v13l1.map Reject.row) 1),(14,.d (cI v14l1)),(15,.ref 4 0),(16,.d (cI v16j2))]) (fun v16j2=>⟨[.row 26 [.d (slOf 3 Range.row v0.seen),.d (slOf 12 Record.row v0.open_),.d (slOf 4 Head.row v0.heads)],.row 34 [.d (cI v1.source),.d (cI v1.number),.d (cI v1.format),.d (slOf 12 Record.row v1.records)],.row 36 [.d (cI v2.earliest),.d (cI v2.latest)],.row 26 [.d (nilD),.d (nilD),.d (nilD)],.row 49 [.d (cI ((nth v1.records v14l1.toNat).source)),.d (cI ((nth v1.records v14l1.toNat).serial)),.d (cI ((nth v1.records v14l1.toNat).kind)),.d (cS ((nth v1.records v14l1.toNat).a)),.d (cS ((nth v1.records v14l1.toNat).b)),.d (cI ((nth v1.records v14l1.toNat).start)),.d (cI ((nth v1.records v14l1.toNat).units)),.d (cI ((nth v1.records v14l1.toNat).call)),.d (cI ((nth v1.records v14l1.toNat).part)),.d (cB ((nth v1.records v14l1.toNat).last)),.d (cI ((nth v1.records v14l1.toNat).trunk)),.d (cB ((nth v1.records v14l1.toNat).inbound))]],[⟨49,12,v12l1.length,none⟩,⟨47,4,v13l1.length,none⟩]⟩) (fun s=>f_r16_Accept_j2 v1 v11l1 v12l1 v13l1 v14l1 s=some q1) ?_ ?_
     ·rintro v16j2 H
      replace H:f_r16_Accept_j2 v1 v11l1 v12l1 v13l1 v14l1 v16j2=some q1:=H
      unfold f_r16_Accept_j2 at H
      obtain ⟨hk5,H⟩:=ck_some H
      obtain ⟨hk6,H⟩:=ck_some H
      refine .A 19 [.d (.agg (Reject.row (⟨(nth v1.records v14l1.toNat).source,(nth v1.records v14l1.toNat).serial,v14l1,v16j2⟩:Reject))),.d (slOf 4 Reject.row ([(⟨(nth v1.records v14l1.toNat).source,(nth v1.records v14l1.toNat).serial,v14l1,v16j2⟩:Reject)]:List Reject)),.a 1 47 4 Reject.row (v13l1++([(⟨(nth v1.records v14l1.toNat).source,(nth v1.records v14l1.toNat).serial,v14l1,v16j2⟩:Reject)]:List Reject)),.i (v14l1+1)] rfl ⟨g_addI rfl rfl hk6,s38.a rfl rfl rfl rfl hk5,g_buildSlice1 underlying38 hi47 hs47 hz47 rfl rfl rfl rfl rfl,OpQ.g (q_buildP pl_47 hi47 hz47 rfl rfl)⟩ ?_
      cases H
      exact .t 4 2 (ih1 (n1,(v11l1,v12l1,v13l1++([(⟨(nth v1.records v14l1.toNat).source,(nth v1.records v14l1.toNat).serial,v14l1,v16j2⟩:Reject)]:List Reject),v14l1+1)) HK1 hm1) rfl rfl rfl rfl rfl hS rfl
     ·intro hj2
      refine .A 5 [] rfl trivial ?_
      refine .ite H rfl (fun H=>?_) (fun H=>?_)
      ·obtain ⟨y5,hy5,H⟩:=bind_some' H
       refine .A 19 [.d (.tup [slOf 3 Range.row y5.1,cB y5.2])] rfl (g_call (en 83 rfl) rfl rfl (c_f_r14_Add (hy5))) ?_
       refine .ite H rfl (fun H=>?_) (fun H=>?_)
       ·obtain ⟨hk7,H⟩:=ck_some H
        obtain ⟨hk8,H⟩:=ck_some H
        refine .A 19 [.d (slOf 12 Record.row ([nth v1.records v14l1.toNat]:List Record)),.a 0 49 12 Record.row (v12l1++([nth v1.records v14l1.toNat]:List Record)),.i (v14l1+1)] rfl ⟨g_addI rfl rfl hk8,s23.a rfl rfl rfl rfl hk7,g_buildSlice1 underlying23 hi49 hs49 hz49 rfl rfl rfl rfl rfl⟩ ?_
        cases H
        exact .t 4 2 (ih1 (n1,(y5.1,v12l1++([nth v1.records v14l1.toNat]:List Record),v13l1,v14l1+1)) HK1 hm1) rfl rfl rfl rfl rfl hS rfl
       ·refine .A 4 [] rfl trivial ?_
        exact .z (hj2 13 H) rfl rfl
      ·refine .A 1 [] rfl trivial ?_
       exact .z (hj2 y4 H) rfl rfl
    ·refine .A 1 [] rfl trivial ?_
     obtain ⟨q0,H9,hq0⟩:=map_some' H; clear H; cases hq0
     cases HK1
     have H:=H9
     exact .z (hj1x (v11l1,v12l1,v13l1) H) rfl rfl
theorem c_f_r14_Same {v0a:List Range} {v1b:List Range} {r:Bool} (H:f_r14_Same v0a v1b=some r):ACall prog 46 [slOf 3 Range.row v0a,slOf 3 Range.row v1b] (·=cB r):=by
 refine ACall.enter' func46 rfl ntmps46 rfl fun S hS=>?_
 unfold f_r14_Same at H
 refine .A 13 [.i (v0a.length:Int),.i (v1b.length:Int)] rfl ⟨s22.n rfl rfl,s22.n rfl rfl⟩ ?_
 refine .ite H rfl (fun H=>?_) (fun H=>?_)
 ·refine .A 4 [] rfl trivial ?_
  refine .R func46 results46 rfl ?_
  cases H
  exact .m rfl (.rfl' _)
 ·refine .A 7 [] rfl trivial ?_
  obtain ⟨n1,H⟩:=loop_some H
  refine .loop (ι:=Nat×(Int)) (fun ⟨_,v5il1⟩=>[(0,.d (slOf 3 Range.row v0a)),(1,.d (slOf 3 Range.row v1b)),(5,.d (cI v5il1))]) (fun ⟨_,v5il1⟩=>⟨[],[]⟩) (fun p=>iter (fun s=>f_r14_Same_l1 v0a v1b s) p.1 p.2=some r) (·.1) (n1,0) H (.cons rfl (.rfl' _) (.cons rfl (.rfl' _) (.cons rfl (.rfl' _) (.nil)))) rfl ?_
  rintro ⟨m1,v5il1⟩ HI ih1
  obtain ⟨n1,q1,hm1,H,HK1⟩:=iter_succ HI
  clear HI
  replace H:f_r14_Same_l1 v0a v1b v5il1=some q1:=H
  unfold f_r14_Same_l1 at H
  refine .A 8 [.i (v0a.length:Int)] rfl (s22.n rfl rfl) ?_
  refine .ite H rfl (fun H=>?_) (fun H=>?_)
  ·obtain ⟨hk1,H⟩:=ck_some H
   obtain ⟨hk2,H⟩:=ck_some H
   refine .A 16 [.p 9,.d (.ro (Range.row (nth v0a v5il1.toNat))),.d (.ro (Range.row (nth v1b v5il1.toNat))),.b (!(eqVs (Range.vals (nth v0a v5il1.toNat)) (Range.vals (nth v1b v5il1.toNat))))] rfl ⟨OpQ.g (q_stneq fk_65 rfl rfl (xs:=Range.vals (nth v0a v5il1.toNat)) (ys:=Range.vals (nth v1b v5il1.toNat)) rfl rfl rfl rfl),s22.ix rfl rfl rfl hk2,s22.ix rfl rfl rfl hk1,(show drawB _ _=true by kernel_rfl)⟩ ?_
   refine .ite H rfl (fun H=>?_) (fun H=>?_)
   ·refine .A 4 [] rfl trivial ?_
    refine .R func46 results46 rfl ?_
    cases H
    cases HK1
    exact .m rfl (.rfl' _)
   ·obtain ⟨hk3,H⟩:=ck_some H
    refine .A 7 [.i (v5il1+1)] rfl (g_addI rfl rfl hk3) ?_
    cases H
    exact .z (ih1 (n1,(v5il1+1)) HK1 hm1) rfl rfl
  ·refine .A 5 [] rfl trivial ?_
   refine .R func46 results46 rfl ?_
   cases H
   cases HK1
   exact .m rfl (.rfl' _)
theorem c_f_r09_Same {v0a:List Record} {v1b:List Record} {r:Bool} (H:f_r09_Same v0a v1b=some r):ACall prog 47 [slOf 12 Record.row v0a,slOf 12 Record.row v1b] (·=cB r):=by
 refine ACall.enter' func47 rfl ntmps47 rfl fun S hS=>?_
 unfold f_r09_Same at H
 refine .A 13 [.i (v0a.length:Int),.i (v1b.length:Int)] rfl ⟨s23.n rfl rfl,s23.n rfl rfl⟩ ?_
 refine .ite H rfl (fun H=>?_) (fun H=>?_)
 ·refine .A 4 [] rfl trivial ?_
  refine .R func47 results47 rfl ?_
  cases H
  exact .m rfl (.rfl' _)
 ·refine .A 7 [] rfl trivial ?_
  obtain ⟨n1,H⟩:=loop_some H
  refine .loop (ι:=Nat×(Int)) (fun ⟨_,v5il1⟩=>[(0,.d (slOf 12 Record.row v0a)),(1,.d (slOf 12 Record.row v1b)),(5,.d (cI v5il1))]) (fun ⟨_,v5il1⟩=>⟨[],[]⟩) (fun p=>iter (fun s=>f_r09_Same_l1 v0a v1b s) p.1 p.2=some r) (·.1) (n1,0) H (.cons rfl (.rfl' _) (.cons rfl (.rfl' _) (.cons rfl (.rfl' _) (.nil)))) rfl ?_
  rintro ⟨m1,v5il1⟩ HI ih1
  obtain ⟨n1,q1,hm1,H,HK1⟩:=iter_succ HI
  clear HI
  replace H:f_r09_Same_l1 v0a v1b v5il1=some q1:=H
  unfold f_r09_Same_l1 at H
  refine .A 8 [.i (v0a.length:Int)] rfl (s23.n rfl rfl) ?_
  refine .ite H rfl (fun H=>?_) (fun H=>?_)
  ·obtain ⟨hk1,H⟩:=ck_some H
   obtain ⟨hk2,H⟩:=ck_some H
   refine .A 16 [.p 9,.d (.ro (Record.row (nth v0a v5il1.toNat))),.d (.ro (Record.row (nth v1b v5il1.toNat))),.b (!(eqVs (Record.vals (nth v0a v5il1.toNat)) (Record.vals (nth v1b v5il1.toNat))))] rfl ⟨OpQ.g (q_stneq fk_49 rfl rfl (xs:=Record.vals (nth v0a v5il1.toNat)) (ys:=Record.vals (nth v1b v5il1.toNat)) rfl rfl rfl rfl),s23.ix rfl rfl rfl hk2,s23.ix rfl rfl rfl hk1,(show drawB _ _=true by kernel_rfl)⟩ ?_
   refine .ite H rfl (fun H=>?_) (fun H=>?_)
   ·refine .A 4 [] rfl trivial ?_
    refine .R func47 results47 rfl ?_
    cases H
    cases HK1
    exact .m rfl (.rfl' _)
   ·obtain ⟨hk3,H⟩:=ck_some H
    refine .A 7 [.i (v5il1+1)] rfl (g_addI rfl rfl hk3) ?_
    cases H
    exact .z (ih1 (n1,(v5il1+1)) HK1 hm1) rfl rfl
  ·refine .A 5 [] rfl trivial ?_
   refine .R func47 results47 rfl ?_
   cases H
   cases HK1
   exact .m rfl (.rfl' _)
theorem c_f_r16_Same {v0a:Intake} {v1b:Intake} {r:Bool} (H:f_r16_Same v0a v1b=some r):ACall prog 18 [.agg (Intake.row v0a),.agg (Intake.row v1b)] (·=cB r):=by
 refine ACall.enter' func18 rfl ntmps18 rfl fun S hS=>?_
 unfold f_r16_Same at H
 refine .A 17 [.r 0,.r 1,.i (v0a.heads.length:Int),.i (v1b.heads.length:Int)] rfl ⟨s24.n rfl rfl,s24.n rfl rfl⟩ ?_
 refine .ite H rfl (fun H=>?_) (fun H=>?_)
 ·refine .A 4 [] rfl trivial ?_
  refine .R func18 results18 rfl ?_
  cases H
  exact .m rfl (.rfl' _)
 ·refine .A 6 [] rfl trivial ?_
  refine .blockJoin2 (ι:=Unit) (fun _=>[(2,.ref 0 0),(3,.ref 1 0)]) (fun _=>⟨[.row 26 [.d (slOf 3 Range.row v0a.seen),.d (slOf 12 Record.row v0a.open_),.d (slOf 4 Head.row v0a.heads)],.row 26 [.d (slOf 3 Range.row v1b.seen),.d (slOf 12 Record.row v1b.open_),.d (slOf 4 Head.row v1b.heads)]],[]⟩) (fun s=>f_r16_Same_j1 v0a v1b=some r) ?_ ?_
  ·rintro _ H
   replace H:f_r16_Same_j1 v0a v1b=some r:=H
   unfold f_r16_Same_j1 at H
   obtain ⟨y1,hy1,H⟩:=bind_some' H
   obtain ⟨y2,hy2,H⟩:=bind_some' H
   refine .A 16 [.b y1,.b y2] rfl ⟨rfl,fun hg=>g_call (en 84 rfl) rfl rfl (c_f_r09_Same (gcall_some hy2 hg)),rfl,rfl,rfl,rfl,g_call (en 85 rfl) rfl rfl (c_f_r14_Same (hy1))⟩ ?_
   refine .R func18 results18 rfl ?_
   cases H
   exact .m rfl (.rfl' _)
  ·intro hj1 hj1x
   obtain ⟨n1,H⟩:=loop_some H
   refine .loop (ι:=Nat×(Int)) (fun ⟨_,v5il1⟩=>[(2,.ref 0 0),(3,.ref 1 0),(5,.d (cI v5il1))]) (fun ⟨_,v5il1⟩=>⟨[.row 26 [.d (slOf 3 Range.row v0a.seen),.d (slOf 12 Record.row v0a.open_),.d (slOf 4 Head.row v0a.heads)],.row 26 [.d (slOf 3 Range.row v1b.seen),.d (slOf 12 Record.row v1b.open_),.d (slOf 4 Head.row v1b.heads)]],[]⟩) (fun p=>iter (fun s=>f_r16_Same_l1 v0a v1b s) p.1 p.2=some r) (·.1) (n1,0) H (.cons rfl (.rfl' _) (.cons rfl (.rfl' _) (.cons rfl (.rfl' _) (.nil)))) rfl ?_
   rintro ⟨m1,v5il1⟩ HI ih1
   obtain ⟨n1,q1,hm1,H,HK1⟩:=iter_succ HI
   clear HI
   replace H:f_r16_Same_l1 v0a v1b v5il1=some q1:=H
   unfold f_r16_Same_l1 at H
   refine .A 9 [.i (v0a.heads.length:Int)] rfl (s24.n rfl rfl) ?_
   refine .ite H rfl (fun H=>?_) (fun H=>?_)
   ·obtain ⟨hk1,H⟩:=ck_some H
    obtain ⟨hk2,H⟩:=ck_some H
    refine .A 18 [.p 11,.d (.ro (Head.row (nth v0a.heads v5il1.toNat))),.d (.ro (Head.row (nth v1b.heads v5il1.toNat))),.b (!(eqVs (Head.vals (nth v0a.heads v5il1.toNat)) (Head.vals (nth v1b.heads v5il1.toNat))))] rfl ⟨OpQ.g (q_stneq fk_30 rfl rfl (xs:=Head.vals (nth v0a.heads v5il1.toNat)) (ys:=Head.vals (nth v1b.heads v5il1.toNat)) rfl rfl rfl rfl),s24.ix rfl rfl rfl hk2,s24.ix rfl rfl rfl hk1,(show drawB _ _=true by kernel_rfl)⟩ ?_
    refine .ite H rfl (fun H=>?_) (fun H=>?_)
    ·refine .A 4 [] rfl trivial ?_
     refine .R func18 results18 rfl ?_
     cases H
     cases HK1
     exact .m rfl (.rfl' _)
    ·obtain ⟨hk3,H⟩:=ck_some H
     refine .A 7 [.i (v5il1+1)] rfl (g_addI rfl rfl hk3) ?_
     cases H
     exact .z (ih1 (n1,(v5il1+1)) HK1 hm1) rfl rfl
   ·refine .A 1 [] rfl trivial ?_
    obtain ⟨q0,H9,hq0⟩:=map_some' H; clear H; cases hq0
    cases HK1
    have H:=H9
    exact .z (hj1x () H) rfl rfl
theorem c_f_r13_Same {v0a:List Record} {v1b:List Record} {r:Bool} (H:f_r13_Same v0a v1b=some r):ACall prog 19 [slOf 12 Record.row v0a,slOf 12 Record.row v1b] (·=cB r):=by
 refine ACall.enter' func19 rfl ntmps19 rfl fun S hS=>?_
 unfold f_r13_Same at H
 obtain ⟨y1,hy1,H⟩:=bind_some' H
 refine .A 11 [.b y1] rfl (g_call (en 84 rfl) rfl rfl (c_f_r09_Same (hy1))) ?_
 refine .R func19 results19 rfl ?_
 cases H
 exact .m rfl (.rfl' _)
theorem c_f_r09_SameRejects {v0a:List Reject} {v1b:List Reject} {r:Bool} (H:f_r09_SameRejects v0a v1b=some r):ACall prog 48 [slOf 4 Reject.row v0a,slOf 4 Reject.row v1b] (·=cB r):=by
 refine ACall.enter' func48 rfl ntmps48 rfl fun S hS=>?_
 unfold f_r09_SameRejects at H
 refine .A 13 [.i (v0a.length:Int),.i (v1b.length:Int)] rfl ⟨s38.n rfl rfl,s38.n rfl rfl⟩ ?_
 refine .ite H rfl (fun H=>?_) (fun H=>?_)
 ·refine .A 4 [] rfl trivial ?_
  refine .R func48 results48 rfl ?_
  cases H
  exact .m rfl (.rfl' _)
 ·refine .A 7 [] rfl trivial ?_
  obtain ⟨n1,H⟩:=loop_some H
  refine .loop (ι:=Nat×(Int)) (fun ⟨_,v5il1⟩=>[(0,.d (slOf 4 Reject.row v0a)),(1,.d (slOf 4 Reject.row v1b)),(5,.d (cI v5il1))]) (fun ⟨_,v5il1⟩=>⟨[],[]⟩) (fun p=>iter (fun s=>f_r09_SameRejects_l1 v0a v1b s) p.1 p.2=some r) (·.1) (n1,0) H (.cons rfl (.rfl' _) (.cons rfl (.rfl' _) (.cons rfl (.rfl' _) (.nil)))) rfl ?_
  rintro ⟨m1,v5il1⟩ HI ih1
  obtain ⟨n1,q1,hm1,H,HK1⟩:=iter_succ HI
  clear HI
  replace H:f_r09_SameRejects_l1 v0a v1b v5il1=some q1:=H
  unfold f_r09_SameRejects_l1 at H
  refine .A 8 [.i (v0a.length:Int)] rfl (s38.n rfl rfl) ?_
  refine .ite H rfl (fun H=>?_) (fun H=>?_)
  ·obtain ⟨hk1,H⟩:=ck_some H
   obtain ⟨hk2,H⟩:=ck_some H
   refine .A 16 [.p 9,.d (.ro (Reject.row (nth v0a v5il1.toNat))),.d (.ro (Reject.row (nth v1b v5il1.toNat))),.b (!(eqVs (Reject.vals (nth v0a v5il1.toNat)) (Reject.vals (nth v1b v5il1.toNat))))] rfl ⟨OpQ.g (q_stneq fk_47 rfl rfl (xs:=Reject.vals (nth v0a v5il1.toNat)) (ys:=Reject.vals (nth v1b v5il1.toNat)) rfl rfl rfl rfl),s38.ix rfl rfl rfl hk2,s38.ix rfl rfl rfl hk1,(show drawB _ _=true by kernel_rfl)⟩ ?_
   refine .ite H rfl (fun H=>?_) (fun H=>?_)
   ·refine .A 4 [] rfl trivial ?_
    refine .R func48 results48 rfl ?_
    cases H
    cases HK1
    exact .m rfl (.rfl' _)
   ·obtain ⟨hk3,H⟩:=ck_some H
    refine .A 7 [.i (v5il1+1)] rfl (g_addI rfl rfl hk3) ?_
    cases H
    exact .z (ih1 (n1,(v5il1+1)) HK1 hm1) rfl rfl
  ·refine .A 5 [] rfl trivial ?_
   refine .R func48 results48 rfl ?_
   cases H
   cases HK1
   exact .m rfl (.rfl' _)
theorem c_f_r13_SameRejects {v0a:List Reject} {v1b:List Reject} {r:Bool} (H:f_r13_SameRejects v0a v1b=some r):ACall prog 20 [slOf 4 Reject.row v0a,slOf 4 Reject.row v1b] (·=cB r):=by
 refine ACall.enter' func20 rfl ntmps20 rfl fun S hS=>?_
 unfold f_r13_SameRejects at H
 obtain ⟨y1,hy1,H⟩:=bind_some' H
 refine .A 11 [.b y1] rfl (g_call (en 86 rfl) rfl rfl (c_f_r09_SameRejects (hy1))) ?_
 refine .R func20 results20 rfl ?_
 cases H
 exact .m rfl (.rfl' _)
set_option maxRecDepth 100000
set_option maxHeartbeats 1000000
theorem c_f_w16_IntakeAgain {v0:Intake} {v1:Batch} {v2:Window} {r:Bool} (H:f_w16_IntakeAgain v0 v1 v2=some r):ACall prog 6 [.agg (Intake.row v0),.agg (Batch.row v1),.agg (Window.row v2)] (·=cB r):=by
 refine ACall.enter' func6 rfl ntmps6 rfl fun S hS=>?_
 unfold f_w16_IntakeAgain at H
 obtain ⟨y1,hy1,H⟩:=bind_some' H
 obtain ⟨y2,hy2,H⟩:=bind_some' H
 obtain ⟨y3,hy3,H⟩:=bind_some' H
 refine .A 25 [.r 0,.r 1,.r 2,.b y1,.b y2,.b y3] rfl ⟨rfl,rfl,fun hg=>g_call (en 76 rfl) rfl rfl (c_f_r16_Check (gcall_some hy3 hg)),rfl,rfl,rfl,fun hg=>g_call (en 0 rfl) rfl rfl (c_f_w16_few (gcall_some hy2 hg)),rfl,rfl,g_call (en 74 rfl) rfl rfl (c_f_w16_small (hy1))⟩ ?_
 refine .ite H rfl (fun H=>?_) (fun H=>?_)
 ·obtain ⟨y4,hy4,H⟩:=bind_some' H
  refine .A 5 [.b y4] rfl (g_call (en 75 rfl) rfl rfl (c_f_w16_awake (hy4))) ?_
  refine .R func6 results6 rfl ?_
  cases H
  exact .m rfl (.rfl' _)
 ·obtain ⟨y5,hy5,H⟩:=bind_some' H
  refine .A 29 [.d (.tup [.agg (Intake.row y5.1),slOf 12 Record.row y5.2.1,slOf 4 Reject.row y5.2.2.1,cI y5.2.2.2]),.r 3] rfl ⟨rfl,rfl,rfl,g_call (en 55 rfl) rfl rfl (c_f_intake_Accept (hy5))⟩ ?_
  refine .ite H rfl (fun H=>?_) (fun H=>?_)
  ·obtain ⟨y6,hy6,H⟩:=bind_some' H
   refine .A 5 [.b y6] rfl (g_call (en 75 rfl) rfl rfl (c_f_w16_awake (hy6))) ?_
   refine .R func6 results6 rfl ?_
   cases H
   exact .m rfl (.rfl' _)
  ·obtain ⟨y7,hy7,H⟩:=bind_some' H
   refine .A 24 [.d (.tup [.agg (Intake.row y7.1),slOf 12 Record.row y7.2.1,slOf 4 Reject.row y7.2.2.1,cI y7.2.2.2]),.r 4] rfl (g_call (en 55 rfl) rfl rfl (c_f_intake_Accept (hy7))) ?_
   refine .ite H rfl (fun H=>?_) (fun H=>?_)
   ·refine .A 4 [] rfl trivial ?_
    refine .R func6 results6 rfl ?_
    cases H
    exact .m rfl (.rfl' _)
   ·obtain ⟨hk1,H⟩:=ck_some H
    obtain ⟨y8,hy8,H⟩:=bind_some' H
    obtain ⟨y9,hy9,H⟩:=bind_some' H
    refine .A 53 [.i (v1.number+1),.d (.tup [.agg (Intake.row y8.1),slOf 12 Record.row y8.2.1,slOf 4 Reject.row y8.2.2.1,cI y8.2.2.2]),.r 5,.i (y8.2.1.length:Int),.i (y8.2.2.1.length:Int),.i (v1.records.length:Int),.b y9] rfl ⟨rfl,rfl,fun hg=>g_call (en 88 rfl) rfl rfl (c_f_r13_Same (gcall_some hy9 hg)),rfl,rfl,rfl,rfl,rfl,rfl,rfl,fun hg=>s23.n rfl rfl,rfl,rfl,fun hg=>s38.n rfl rfl,rfl,rfl,rfl,fun hg=>s23.n rfl rfl,rfl,g_call (en 55 rfl) rfl rfl (c_f_intake_Accept (hy8)),g_addI rfl rfl hk1⟩ ?_
    refine .ite H rfl (fun H=>?_) (fun H=>?_)
    ·refine .A 4 [] rfl trivial ?_
     refine .R func6 results6 rfl ?_
     cases H
     exact .m rfl (.rfl' _)
    ·refine .A 7 [] rfl trivial ?_
     obtain ⟨n1,H⟩:=loop_some H
     refine .loop (ι:=Nat×(Int)) (fun ⟨_,v19l1⟩=>[(4,.ref 1 0),(5,.ref 2 0),(17,.d (slOf 4 Reject.row y8.2.2.1)),(19,.d (cI v19l1))]) (fun ⟨_,v19l1⟩=>⟨[.row 26 [.d (slOf 3 Range.row v0.seen),.d (slOf 12 Record.row v0.open_),.d (slOf 4 Head.row v0.heads)],.row 34 [.d (cI v1.source),.d (cI (v1.number+1)),.d (cI v1.format),.d (slOf 12 Record.row v1.records)],.row 36 [.d (cI v2.earliest),.d (cI v2.latest)],.row 26 [.d (slOf 3 Range.row y5.1.seen),.d (slOf 12 Record.row y5.1.open_),.d (slOf 4 Head.row y5.1.heads)],.row 26 [.d (slOf 3 Range.row y7.1.seen),.d (slOf 12 Record.row y7.1.open_),.d (slOf 4 Head.row y7.1.heads)],.row 26 [.d (slOf 3 Range.row y8.1.seen),.d (slOf 12 Record.row y8.1.open_),.d (slOf 4 Head.row y8.1.heads)]],[]⟩) (fun p=>iter (fun s=>f_w16_IntakeAgain_l1 v1 v2 y8 s) p.1 p.2=some r) (·.1) (n1,0) H (.cons rfl (.rfl' _) (.cons rfl (.rfl' _) (.cons rfl (.rfl' _) (.cons rfl (.rfl' _) (.nil))))) rfl ?_
     rintro ⟨m1,v19l1⟩ HI ih1
     obtain ⟨n1,q1,hm1,H,HK1⟩:=iter_succ HI
     clear HI
     replace H:f_w16_IntakeAgain_l1 v1 v2 y8 v19l1=some q1:=H
     unfold f_w16_IntakeAgain_l1 at H
     refine .A 8 [.i (y8.2.2.1.length:Int)] rfl (s38.n rfl rfl) ?_
     refine .ite H rfl (fun H=>?_) (fun H=>?_)
     ·refine .A 7 [] rfl trivial ?_
      refine .seqJoin (ι:=Int) (fun v20j1=>[(4,.ref 1 0),(5,.ref 2 0),(17,.d (slOf 4 Reject.row y8.2.2.1)),(19,.d (cI v19l1)),(20,.d (cI v20j1))]) (fun v20j1=>⟨[.row 26 [.d (slOf 3 Range.row v0.seen),.d (slOf 12 Record.row v0.open_),.d (slOf 4 Head.row v0.heads)],.row 34 [.d (cI v1.source),.d (cI (v1.number+1)),.d (cI v1.format),.d (slOf 12 Record.row v1.records)],.row 36 [.d (cI v2.earliest),.d (cI v2.latest)],.row 26 [.d (slOf 3 Range.row y5.1.seen),.d (slOf 12 Record.row y5.1.open_),.d (slOf 4 Head.row y5.1.heads)],.row 26 [.d (slOf 3 Range.row y7.1.seen),.d (slOf 12 Record.row y7.1.open_),.d (slOf 4 Head.row y7.1.heads)],.row 26 [.d (slOf 3 Range.row y8.1.seen),.d (slOf 12 Record.row y8.1.open_),.d (slOf 4 Head.row y8.1.heads)]],[]⟩) (fun s=>f_w16_IntakeAgain_j1 y8 v19l1 s=some q1) ?_ ?_
      ·rintro v20j1 H
       replace H:f_w16_IntakeAgain_j1 y8 v19l1 v20j1=some q1:=H
       unfold f_w16_IntakeAgain_j1 at H
       obtain ⟨hk2,H⟩:=ck_some H
       obtain ⟨hk3,H⟩:=ck_some H
       refine .A 19 [.d (.ro (Reject.row (nth y8.2.2.1 v19l1.toNat))),.d (.ro (Reject.row (nth y8.2.2.1 v19l1.toNat)))] rfl ⟨rfl,rfl,rfl,rfl,rfl,fun hg=>s38.ix rfl rfl rfl (hk3 hg),rfl,rfl,s38.ix rfl rfl rfl hk2⟩ ?_
       refine .ite H rfl (fun H=>?_) (fun H=>?_)
       ·refine .A 4 [] rfl trivial ?_
        refine .R func6 results6 rfl ?_
        cases H
        cases HK1
        exact .m rfl (.rfl' _)
       ·obtain ⟨hk4,H⟩:=ck_some H
        refine .A 7 [.i (v19l1+1)] rfl (g_addI rfl rfl hk4) ?_
        cases H
        exact .z (ih1 (n1,(v19l1+1)) HK1 hm1) rfl rfl
      ·intro hj1
       obtain ⟨hk5,H⟩:=ck_some H
       obtain ⟨y10,hy10,H⟩:=bind_some' H
       refine .A 12 [.p 8,.d (.ro (Record.row (nth v1.records v19l1.toNat))),.i y10] rfl ⟨g_call (en 82 rfl) rfl rfl (c_f_r13_Window (hy10)),s23.ix rfl rfl rfl hk5,(show drawB _ _=true by kernel_rfl)⟩ ?_
       refine .ite H rfl (fun H=>?_) (fun H=>?_)
       ·refine .A 3 [] rfl trivial ?_
        exact .z (hj1 15 H) rfl rfl
       ·refine .A 1 [] rfl trivial ?_
        exact .z (hj1 13 H) rfl rfl
     ·obtain ⟨y11,hy11,H⟩:=bind_some' H
      refine .A 6 [.b y11] rfl (g_call (en 75 rfl) rfl rfl (c_f_w16_awake (hy11))) ?_
      refine .R func6 results6 rfl ?_
      cases H
      cases HK1
      exact .m rfl (.rfl' _)
theorem c_f_correlate_chain {v0parts:List Record} {r:(List Int)} (H:f_correlate_chain v0parts=some r):ACall prog 85 [slOf 12 Record.row v0parts] (·=slOf 1 rI r):=by
 obtain ⟨i3,hi3,hz3,hs3,hb3⟩:=in_3
 refine ACall.enter' func85 rfl ntmps85 rfl fun S hS=>?_
 unfold f_correlate_chain at H
 obtain ⟨y1,hy1,H⟩:=bind_some' H
 refine .A 12 [.d (slOf 1 rI y1)] rfl (g_call (en 36 rfl) rfl rfl (c_f_correlate_candidates (hy1))) ?_
 obtain ⟨n1,H⟩:=loop_some H
 refine .loop (ι:=Nat×(List Int)) (fun ⟨_,v3atl1⟩=>[(0,.d (slOf 12 Record.row v0parts)),(3,.d (slOf 1 rI v3atl1))]) (fun ⟨_,v3atl1⟩=>⟨[],[]⟩) (fun p=>iter (fun s=>f_correlate_chain_l1 v0parts s) p.1 p.2=some r) (·.1) (n1,y1) H (.cons rfl (.rfl' _) (.cons rfl (.rfl' _) (.nil))) rfl ?_
 rintro ⟨m1,v3atl1⟩ HI ih1
 obtain ⟨n1,q1,hm1,H,HK1⟩:=iter_succ HI
 clear HI
 replace H:f_correlate_chain_l1 v0parts v3atl1=some q1:=H
 unfold f_correlate_chain_l1 at H
 refine .A 7 [.i (v3atl1.length:Int)] rfl (s69.n rfl rfl) ?_
 refine .ite H rfl (fun H=>?_) (fun H=>?_)
 ·obtain ⟨y2,hy2,H⟩:=bind_some' H
  obtain ⟨y3,hy3,H⟩:=bind_some' H
  refine .A 29 [.d (.tup [slOf 12 Record.row y2.1,slOf 12 Record.row y2.2]),.d (.tup [.agg (Record.row y3.1),cB y3.2]),.r 0] rfl ⟨g_call (en 34 rfl) rfl rfl (c_f_correlate_whole (hy3)),g_call (en 37 rfl) rfl rfl (c_f_correlate_pick (hy2))⟩ ?_
  refine .ite H rfl (fun H=>?_) (fun H=>?_)
  ·refine .A 5 [] rfl trivial ?_
   refine .R func85 results85 rfl ?_
   cases H
   cases HK1
   exact .m rfl (.rfl' _)
  ·obtain ⟨hk1,H⟩:=ck_some H
   obtain ⟨hk2,H⟩:=ck_some H
   refine .A 10 [.i (v3atl1.length:Int),.i ((v3atl1.length:Int) - 1),.d (slOf 1 rI (v3atl1.take ((v3atl1.length:Int) - 1).toNat))] rfl ⟨OpQ.g (q_slHL (l:=v3atl1) (row:=rI) underlying69 hi3 hs3 rfl rfl rfl hk2),g_subI rfl rfl hk1,s69.n rfl rfl⟩ ?_
   cases H
   exact .t 0 0 (ih1 (n1,(v3atl1.take ((v3atl1.length:Int) - 1).toNat)) HK1 hm1) rfl rfl rfl rfl rfl hS rfl
 ·refine .A 5 [] rfl trivial ?_
  refine .R func85 results85 rfl ?_
  cases H
  cases HK1
  exact .m rfl (.nil 1)
theorem c_g_correlate_Expire_1 {v0r:Record} {o0c0p:Int} {r:Bool} (H:g_correlate_Expire_1 v0r o0c0p=some r):ACallS prog 83 [.d (.agg (Record.row v0r)),.ref 0 0] ⟨[.row 3 [.d (cI o0c0p)]],[]⟩ (QE (.d (cB r)) ⟨[.row 3 [.d (cI o0c0p)]],[]⟩):=by
 refine ACallS.keep ?_
 refine ACallS.enter func83 rfl ntmps83 rfl fun S hS=>?_
 unfold g_correlate_Expire_1 at H
 refine .A 13 [.r 1] rfl trivial ?_
 refine .R func83 results83 rfl ?_
 cases H
 exact ⟨[0],[],rfl,rfl,rfl,rfl,rfl,rfl,rfl,rfl,.rfl' _⟩
theorem c_g_api_Record_v2 {v0s:List Record} {o0c0p:Int} {r:Int} (H:g_api_Record_v2 v0s o0c0p=some r):ACallS prog 117 [.d (slOf 12 Record.row v0s),.clo 83 [.ref 0 0]] ⟨[.row 3 [.d (cI o0c0p)]],[]⟩ (QE (.d (cI r)) ⟨[.row 3 [.d (cI o0c0p)]],[]⟩):=by
 refine ACallS.keep ?_
 refine ACallS.enter func117 rfl ntmps117 rfl fun S hS=>?_
 unfold g_api_Record_v2 at H
 refine .A 12 [.i (v0s.length:Int)] rfl (s23.n rfl rfl) ?_
 obtain ⟨n1,H⟩:=loop_some H
 refine .loop (ι:=Nat×(Int)) (fun ⟨_,v8l1⟩=>[(0,.d (slOf 12 Record.row v0s)),(1,.clo 83 [.ref 0 0]),(7,.d (cI (v0s.length:Int))),(8,.d (cI v8l1))]) (fun ⟨_,v8l1⟩=>⟨[.row 3 [.d (cI o0c0p)]],[]⟩) (fun p=>iter (fun s=>g_api_Record_v2_l1 v0s o0c0p s) p.1 p.2=some r) (·.1) (n1,0) H (.cons rfl (.rfl' _) (.cons rfl (.rfl' _) (.cons rfl (.rfl' _) (.cons rfl (.rfl' _) (.nil))))) rfl ?_
 rintro ⟨m1,v8l1⟩ HI ih1
 obtain ⟨n1,q1,hm1,H,HK1⟩:=iter_succ HI
 clear HI
 replace H:g_api_Record_v2_l1 v0s o0c0p v8l1=some q1:=H
 unfold g_api_Record_v2_l1 at H
 refine .A 5 [] rfl trivial ?_
 refine .ite H rfl (fun H=>?_) (fun H=>?_)
 ·obtain ⟨hk1,H⟩:=ck_some H
  obtain ⟨y1,hy1,H⟩:=bind_some' H
  refine .B 15 [.d (.ro (Record.row (nth v0s v8l1.toNat)))] rfl (s23.ix rfl rfl rfl hk1) ?_
  refine .callFC (en 92 rfl) rfl rfl [0] [] (x:=.d (cB y1)) (st':=⟨[.row 3 [.d (cI o0c0p)]],[]⟩) rfl (c_g_correlate_Expire_1 (hy1)) ⟨.rfl' _,.rfl' _,trivial⟩ rfl rfl rfl rfl rfl rfl ?_
  refine .A 1 [] rfl trivial ?_
  refine .ite H rfl (fun H=>?_) (fun H=>?_)
  ·refine .A 5 [] rfl trivial ?_
   refine .R func117 results117 rfl ?_
   cases H
   cases HK1
   exact ⟨[0],[],rfl,rfl,rfl,rfl,rfl,rfl,rfl,rfl,.rfl' _⟩
  ·obtain ⟨hk2,H⟩:=ck_some H
   refine .A 6 [.i (v8l1+1)] rfl (g_addI rfl rfl hk2) ?_
   cases H
   exact .z (ih1 (n1,(v8l1+1)) HK1 hm1) rfl rfl
 ·refine .A 5 [] rfl trivial ?_
  refine .R func117 results117 rfl ?_
  cases H
  cases HK1
  exact ⟨[0],[],rfl,rfl,rfl,rfl,rfl,rfl,rfl,rfl,.rfl' _⟩
theorem c_g_api_Record_v3 {v0s:List Record} {o0c0p:Int} {r:Bool} (H:g_api_Record_v3 v0s o0c0p=some r):ACallS prog 82 [.d (slOf 12 Record.row v0s),.clo 83 [.ref 0 0]] ⟨[.row 3 [.d (cI o0c0p)]],[]⟩ (QE (.d (cB r)) ⟨[.row 3 [.d (cI o0c0p)]],[]⟩):=by
 refine ACallS.keep ?_
 refine ACallS.enter func82 rfl ntmps82 rfl fun S hS=>?_
 unfold g_api_Record_v3 at H
 obtain ⟨y1,hy1,H⟩:=bind_some' H
 refine .B 8 [] rfl trivial ?_
 refine .callF (en 30 rfl) rfl [0] [] (x:=.d (cI y1)) (st':=⟨[.row 3 [.d (cI o0c0p)]],[]⟩) rfl (c_g_api_Record_v2 (hy1)) ⟨.rfl' _,.rfl' _,trivial⟩ rfl rfl rfl rfl rfl rfl ?_
 refine .A 3 [] rfl trivial ?_
 refine .R func82 results82 rfl ?_
 cases H
 exact ⟨[0],[],rfl,rfl,rfl,rfl,rfl,rfl,rfl,rfl,.rfl' _⟩
theorem c_f_correlate_Expire {v0:List Record} {v1:Int} {r:(List Record)×(List Record)} (H:f_correlate_Expire v0 v1=some r):ACall prog 50 [slOf 12 Record.row v0,cI v1] (·=.tup [slOf 12 Record.row r.1,slOf 12 Record.row r.2]):=by
 obtain ⟨i49,hi49,hz49,hs49,hb49⟩:=in_49
 refine ACall.enter' func50 rfl ntmps50 rfl fun S hS=>?_
 unfold f_correlate_Expire at H
 obtain ⟨y1,hy1,H⟩:=bind_some' H
 refine .A 19 [.r 0,.d (slOf 12 Record.row y1)] rfl (g_call (en 13 rfl) rfl rfl (c_x_CloneRecord (hy1))) ?_
 refine .tok (i:=6) (e:=49) (sz:=12) rfl ?_
 refine .tok (i:=7) (e:=49) (sz:=12) rfl ?_
 obtain ⟨n1,H⟩:=loop_some H
 refine .loop (ι:=Nat×(List Record×List Record×List Record)) (fun ⟨_,v6l1,v7l1,v8l1⟩=>[(3,.ref 0 0),(6,.tsl 12 (v6l1.map Record.row) 0),(7,.tsl 12 (v7l1.map Record.row) 1),(8,.d (slOf 12 Record.row v8l1))]) (fun ⟨_,v6l1,v7l1,v8l1⟩=>⟨[.row 3 [.d (cI v1)]],[⟨49,12,v6l1.length,none⟩,⟨49,12,v7l1.length,none⟩]⟩) (fun p=>iter (fun s=>f_correlate_Expire_l1 v1 s.1 s.2.1 s.2.2) p.1 p.2=some r) (·.1) (n1,(([]:List Record),([]:List Record),y1)) H (.cons rfl (.rfl' _) (.cons rfl (.rfl' _) (.cons rfl (.rfl' _) (.cons rfl (.rfl' _) (.nil))))) rfl ?_
 rintro ⟨m1,v6l1,v7l1,v8l1⟩ HI ih1
 obtain ⟨n1,q1,hm1,H,HK1⟩:=iter_succ HI
 clear HI
 replace H:f_correlate_Expire_l1 v1 v6l1 v7l1 v8l1=some q1:=H
 unfold f_correlate_Expire_l1 at H
 refine .A 7 [.i (v8l1.length:Int)] rfl (s23.n rfl rfl) ?_
 refine .ite H rfl (fun H=>?_) (fun H=>?_)
 ·obtain ⟨hk1,H⟩:=ck_some H
  obtain ⟨y2,hy2,H⟩:=bind_some' H
  obtain ⟨y3,hy3,H⟩:=bind_some' H
  obtain ⟨hk2,H⟩:=ck_some H
  obtain ⟨hk3,H⟩:=ck_some H
  obtain ⟨y4,hy4,H⟩:=bind_some' H
  refine .B 35 [.d (.ro (Record.row (nth v8l1 (Int.toNat (0))))),.d (.agg (CorrelateCall.row y2)),.d (.tup [cI y3.1,cI y3.2]),.d (slOf 12 Record.row (v8l1.take y3.2.toNat)),.d (slOf 12 Record.row (v8l1.drop y3.2.toNat)),.g (.clo 83 [.ref 0 0])] rfl ⟨OpQ.g (q_makeFunc rfl),OpQ.g (q_slLL (l:=v8l1) (row:=Record.row) underlying23 hi49 hs49 rfl rfl rfl hk3),OpQ.g (q_slHL (l:=v8l1) (row:=Record.row) underlying23 hi49 hs49 rfl rfl rfl hk2),g_call (en 35 rfl) rfl rfl (c_f_correlate_span (hy3)),g_call (en 28 rfl) rfl rfl (c_f_correlate_callOf (hy2)),s23.ix rfl rfl rfl hk1⟩ ?_
  refine .callF (en 93 rfl) rfl [0] [] (x:=.d (cB y4)) (st':=⟨[.row 3 [.d (cI v1)]],[⟨49,12,v6l1.length,none⟩,⟨49,12,v7l1.length,none⟩]⟩) rfl (c_g_api_Record_v3 (hy4)) ⟨.rfl' _,.rfl' _,trivial⟩ rfl rfl rfl rfl rfl rfl ?_
  refine .A 1 [] rfl trivial ?_
  refine .ite H rfl (fun H=>?_) (fun H=>?_)
  ·obtain ⟨hk4,H⟩:=ck_some H
   refine .A 8 [.a 1 49 12 Record.row (v7l1++(v8l1.take y3.2.toNat))] rfl (s23.a rfl rfl rfl rfl hk4) ?_
   cases H
   exact .z (ih1 (n1,(v6l1,v7l1++(v8l1.take y3.2.toNat),v8l1.drop y3.2.toNat)) HK1 hm1) rfl rfl
  ·obtain ⟨y5,hy5,H⟩:=bind_some' H
   obtain ⟨y6,hy6,H⟩:=bind_some' H
   refine .A 13 [.d (slOf 1 rI y5),.d (.tup [slOf 12 Record.row y6.1,slOf 12 Record.row y6.2])] rfl ⟨g_call (en 37 rfl) rfl rfl (c_f_correlate_pick (hy6)),g_call (en 94 rfl) rfl rfl (c_f_correlate_chain (hy5))⟩ ?_
   refine .seqJoin (ι:=List Record×Int×Int×Int×List UInt8×List UInt8×Int×Int×Int×Int×Bool×Int×Bool) (fun ⟨v6j1,o1c0j1,o1c1j1,o1c2j1,o1c3j1,o1c4j1,o1c5j1,o1c6j1,o1c7j1,o1c8j1,o1c9j1,o1c10j1,o1c11j1⟩=>[(3,.ref 0 0),(6,.tsl 12 (v6j1.map Record.row) 0),(7,.tsl 12 (v7l1.map Record.row) 1),(8,.d (slOf 12 Record.row (v8l1.drop y3.2.toNat))),(13,.d (slOf 12 Record.row y6.2))]) (fun ⟨v6j1,o1c0j1,o1c1j1,o1c2j1,o1c3j1,o1c4j1,o1c5j1,o1c6j1,o1c7j1,o1c8j1,o1c9j1,o1c10j1,o1c11j1⟩=>⟨[.row 3 [.d (cI v1)],.row 49 [.d (cI o1c0j1),.d (cI o1c1j1),.d (cI o1c2j1),.d (cS o1c3j1),.d (cS o1c4j1),.d (cI o1c5j1),.d (cI o1c6j1),.d (cI o1c7j1),.d (cI o1c8j1),.d (cB o1c9j1),.d (cI o1c10j1),.d (cB o1c11j1)]],[⟨49,12,v6j1.length,none⟩,⟨49,12,v7l1.length,none⟩]⟩) (fun s=>f_correlate_Expire_j1 v7l1 v8l1 y3 y6 s.1 s.2.1 s.2.2.1 s.2.2.2.1 s.2.2.2.2.1 s.2.2.2.2.2.1 s.2.2.2.2.2.2.1 s.2.2.2.2.2.2.2.1 s.2.2.2.2.2.2.2.2.1 s.2.2.2.2.2.2.2.2.2.1 s.2.2.2.2.2.2.2.2.2.2.1 s.2.2.2.2.2.2.2.2.2.2.2.1 s.2.2.2.2.2.2.2.2.2.2.2.2=some q1) ?_ ?_
   ·rintro ⟨v6j1,o1c0j1,o1c1j1,o1c2j1,o1c3j1,o1c4j1,o1c5j1,o1c6j1,o1c7j1,o1c8j1,o1c9j1,o1c10j1,o1c11j1⟩ H
    replace H:f_correlate_Expire_j1 v7l1 v8l1 y3 y6 v6j1 o1c0j1 o1c1j1 o1c2j1 o1c3j1 o1c4j1 o1c5j1 o1c6j1 o1c7j1 o1c8j1 o1c9j1 o1c10j1 o1c11j1=some q1:=H
    unfold f_correlate_Expire_j1 at H
    refine .A 7 [.i (y6.2.length:Int)] rfl (s23.n rfl rfl) ?_
    obtain ⟨n2,H⟩:=loop_some H
    refine .loop (ι:=Nat×(List Record×Int)) (fun ⟨_,v6l2,v63l2⟩=>[(3,.ref 0 0),(6,.tsl 12 (v6l2.map Record.row) 0),(7,.tsl 12 (v7l1.map Record.row) 1),(8,.d (slOf 12 Record.row (v8l1.drop y3.2.toNat))),(61,.d (slOf 12 Record.row y6.2)),(62,.d (cI (y6.2.length:Int))),(63,.d (cI v63l2))]) (fun ⟨_,v6l2,v63l2⟩=>⟨[.row 3 [.d (cI v1)],.row 49 [.d (cI o1c0j1),.d (cI o1c1j1),.d (cI o1c2j1),.d (cS o1c3j1),.d (cS o1c4j1),.d (cI o1c5j1),.d (cI o1c6j1),.d (cI o1c7j1),.d (cI o1c8j1),.d (cB o1c9j1),.d (cI o1c10j1),.d (cB o1c11j1)]],[⟨49,12,v6l2.length,none⟩,⟨49,12,v7l1.length,none⟩]⟩) (fun p=>iter (fun s=>f_correlate_Expire_l2 v7l1 v8l1 y3 y6 s.1 s.2) p.1 p.2=some q1) (·.1) (n2,(v6j1,0)) H (.cons rfl (.rfl' _) (.cons rfl (.rfl' _) (.cons rfl (.rfl' _) (.cons rfl (.rfl' _) (.cons rfl (.rfl' _) (.cons rfl (.rfl' _) (.cons rfl (.rfl' _) (.nil)))))))) rfl ?_
    rintro ⟨m2,v6l2,v63l2⟩ HI ih2
    obtain ⟨n2,q2,hm2,H,HK2⟩:=iter_succ HI
    clear HI
    replace H:f_correlate_Expire_l2 v7l1 v8l1 y3 y6 v6l2 v63l2=some q2:=H
    unfold f_correlate_Expire_l2 at H
    refine .A 5 [] rfl trivial ?_
    refine .ite H rfl (fun H=>?_) (fun H=>?_)
    ·obtain ⟨hk5,H⟩:=ck_some H
     obtain ⟨y7,hy7,H⟩:=bind_some' H
     obtain ⟨hk6,H⟩:=ck_some H
     obtain ⟨hk7,H⟩:=ck_some H
     refine .A 23 [.d (.ro (Record.row (nth y6.2 v63l2.toNat))),.r 2,.d (.agg (Record.row y7)),.d (slOf 12 Record.row ([y7]:List Record)),.a 0 49 12 Record.row (v6l2++([y7]:List Record)),.i (v63l2+1)] rfl ⟨g_addI rfl rfl hk7,s23.a rfl rfl rfl rfl hk6,g_buildSlice1 underlying23 hi49 hs49 hz49 rfl rfl rfl rfl rfl,g_call (en 31 rfl) rfl rfl (c_f_correlate_alone (hy7)),s23.ix rfl rfl rfl hk5⟩ ?_
     cases H
     exact .t 2 2 (ih2 (n2,(v6l2++([y7]:List Record),v63l2+1)) HK2 hm2) rfl rfl rfl rfl rfl hS rfl
    ·refine .A 2 [] rfl trivial ?_
     cases H
     cases HK2
     exact .t 1 2 (ih1 (n1,(v6l2,v7l1,v8l1.drop y3.2.toNat)) HK1 hm1) rfl rfl rfl rfl rfl hS rfl
   ·intro hj1
    obtain ⟨y8,hy8,H⟩:=bind_some' H
    refine .A 15 [.d (.tup [.agg (Record.row y8.1),cB y8.2]),.r 1] rfl (g_call (en 34 rfl) rfl rfl (c_f_correlate_whole (hy8))) ?_
    refine .ite H rfl (fun H=>?_) (fun H=>?_)
    ·obtain ⟨hk8,H⟩:=ck_some H
     refine .A 7 [.d (slOf 12 Record.row ([y8.1]:List Record)),.a 0 49 12 Record.row (v6l1++([y8.1]:List Record))] rfl ⟨s23.a rfl rfl rfl rfl hk8,g_buildSlice1 underlying23 hi49 hs49 hz49 rfl rfl rfl rfl rfl⟩ ?_
     exact .z (hj1 (v6l1++([y8.1]:List Record),y8.1.source,y8.1.serial,y8.1.kind,y8.1.a,y8.1.b,y8.1.start,y8.1.units,y8.1.call,y8.1.part,y8.1.last,y8.1.trunk,y8.1.inbound) H) rfl rfl
    ·refine .A 1 [] rfl trivial ?_
     exact .z (hj1 (v6l1,y8.1.source,y8.1.serial,y8.1.kind,y8.1.a,y8.1.b,y8.1.start,y8.1.units,y8.1.call,y8.1.part,y8.1.last,y8.1.trunk,y8.1.inbound) H) rfl rfl
 ·refine .A 8 [] rfl trivial ?_
  refine .R func50 results50 rfl ?_
  cases H
  cases HK1
  exact .m rfl (.tupL ⟨.tsl _ _ _,.tsl _ _ _,trivial⟩)
theorem c_f_intake_Close {v0in:Intake} {v1before:Int} {r:Intake×(List Record)} (H:f_intake_Close v0in v1before=some r):ACall prog 23 [.agg (Intake.row v0in),cI v1before] (·=.tup [.agg (Intake.row r.1),slOf 12 Record.row r.2]):=by
 refine ACall.enter' func23 rfl ntmps23 rfl fun S hS=>?_
 unfold f_intake_Close at H
 obtain ⟨y1,hy1,H⟩:=bind_some' H
 obtain ⟨y2,hy2,H⟩:=bind_some' H
 refine .A 38 [.r 0,.r 1,.d (.agg (Intake.row y1)),.r 2,.d (.tup [slOf 12 Record.row y2.1,slOf 12 Record.row y2.2])] rfl ⟨g_call (en 95 rfl) rfl rfl (c_f_correlate_Expire (hy2)),g_call (en 46 rfl) rfl rfl (c_f_intake_copied (hy1))⟩ ?_
 refine .R func23 results23 rfl ?_
 cases H
 exact .m rfl (.tupD rfl)
theorem c_f_r15_alone {v0p:Record} {r:Record} (H:f_r15_alone v0p=some r):ACall prog 120 [.agg (Record.row v0p)] (·=.agg (Record.row r)):=by
 refine ACall.enter' func120 rfl ntmps120 rfl fun S hS=>?_
 unfold f_r15_alone at H
 refine .A 25 [.r 0,.r 1] rfl trivial ?_
 refine .R func120 results120 rfl ?_
 cases H
 exact .m rfl (.rfl' _)
theorem c_f_r15_end {v0:List Record} {r:(List Record)} (H:f_r15_end v0=some r):ACall prog 89 [slOf 12 Record.row v0] (·=slOf 12 Record.row r):=by
 obtain ⟨i3,hi3,hz3,hs3,hb3⟩:=in_3
 obtain ⟨i49,hi49,hz49,hs49,hb49⟩:=in_49
 refine ACall.enter' func89 rfl ntmps89 rfl fun S hS=>?_
 unfold f_r15_end at H
 obtain ⟨hk1,H⟩:=ck_some H
 obtain ⟨y1,hy1,H⟩:=bind_some' H
 refine .A 13 [.d (.ro (Record.row (nth v0 (Int.toNat (0))))),.d (slOf 1 rI y1)] rfl ⟨g_call (en 67 rfl) rfl rfl (c_f_r15_firsts (hy1)),s23.ix rfl rfl rfl hk1⟩ ?_
 refine .seqJoin (ι:=List Int) (fun v3j1=>[(0,.d (slOf 12 Record.row v0)),(3,.d (slOf 1 rI v3j1))]) (fun v3j1=>⟨[],[]⟩) (fun s=>f_r15_end_j1 v0 s=some r) ?_ ?_
 ·rintro v3j1 H
  replace H:f_r15_end_j1 v0 v3j1=some r:=H
  unfold f_r15_end_j1 at H
  obtain ⟨y2,hy2,H⟩:=bind_some' H
  refine .A 15 [.d (.tup [slOf 12 Record.row y2.1,slOf 12 Record.row y2.2])] rfl (g_call (en 66 rfl) rfl rfl (c_f_r15_pick (hy2))) ?_
  refine .tok (i:=10) (e:=49) (sz:=12) rfl ?_
  refine .seqJoin (ι:=List Record×Int×Int×Int×List UInt8×List UInt8×Int×Int×Int×Int×Bool×Int×Bool) (fun ⟨v10j2,o0c0j2,o0c1j2,o0c2j2,o0c3j2,o0c4j2,o0c5j2,o0c6j2,o0c7j2,o0c8j2,o0c9j2,o0c10j2,o0c11j2⟩=>[(9,.d (slOf 12 Record.row y2.2)),(10,.tsl 12 (v10j2.map Record.row) 0)]) (fun ⟨v10j2,o0c0j2,o0c1j2,o0c2j2,o0c3j2,o0c4j2,o0c5j2,o0c6j2,o0c7j2,o0c8j2,o0c9j2,o0c10j2,o0c11j2⟩=>⟨[.row 49 [.d (cI o0c0j2),.d (cI o0c1j2),.d (cI o0c2j2),.d (cS o0c3j2),.d (cS o0c4j2),.d (cI o0c5j2),.d (cI o0c6j2),.d (cI o0c7j2),.d (cI o0c8j2),.d (cB o0c9j2),.d (cI o0c10j2),.d (cB o0c11j2)]],[⟨49,12,v10j2.length,none⟩]⟩) (fun s=>f_r15_end_j2 y2 s.1 s.2.1 s.2.2.1 s.2.2.2.1 s.2.2.2.2.1 s.2.2.2.2.2.1 s.2.2.2.2.2.2.1 s.2.2.2.2.2.2.2.1 s.2.2.2.2.2.2.2.2.1 s.2.2.2.2.2.2.2.2.2.1 s.2.2.2.2.2.2.2.2.2.2.1 s.2.2.2.2.2.2.2.2.2.2.2.1 s.2.2.2.2.2.2.2.2.2.2.2.2=some r) ?_ ?_
  ·rintro ⟨v10j2,o0c0j2,o0c1j2,o0c2j2,o0c3j2,o0c4j2,o0c5j2,o0c6j2,o0c7j2,o0c8j2,o0c9j2,o0c10j2,o0c11j2⟩ H
   replace H:f_r15_end_j2 y2 v10j2 o0c0j2 o0c1j2 o0c2j2 o0c3j2 o0c4j2 o0c5j2 o0c6j2 o0c7j2 o0c8j2 o0c9j2 o0c10j2 o0c11j2=some r:=H
   unfold f_r15_end_j2 at H
   refine .A 6 [] rfl trivial ?_
   obtain ⟨n1,H⟩:=loop_some H
   refine .loop (ι:=Nat×(List Record×Int)) (fun ⟨_,v10l1,v13l1⟩=>[(9,.d (slOf 12 Record.row y2.2)),(10,.tsl 12 (v10l1.map Record.row) 0),(13,.d (cI v13l1))]) (fun ⟨_,v10l1,v13l1⟩=>⟨[.row 49 [.d (cI o0c0j2),.d (cI o0c1j2),.d (cI o0c2j2),.d (cS o0c3j2),.d (cS o0c4j2),.d (cI o0c5j2),.d (cI o0c6j2),.d (cI o0c7j2),.d (cI o0c8j2),.d (cB o0c9j2),.d (cI o0c10j2),.d (cB o0c11j2)]],[⟨49,12,v10l1.length,none⟩]⟩) (fun p=>iter (fun s=>f_r15_end_l1 y2 s.1 s.2) p.1 p.2=some r) (·.1) (n1,(v10j2,0)) H (.cons rfl (.rfl' _) (.cons rfl (.rfl' _) (.cons rfl (.rfl' _) (.nil)))) rfl ?_
   rintro ⟨m1,v10l1,v13l1⟩ HI ih1
   obtain ⟨n1,q1,hm1,H,HK1⟩:=iter_succ HI
   clear HI
   replace H:f_r15_end_l1 y2 v10l1 v13l1=some q1:=H
   unfold f_r15_end_l1 at H
   refine .A 8 [.i (y2.2.length:Int)] rfl (s23.n rfl rfl) ?_
   refine .ite H rfl (fun H=>?_) (fun H=>?_)
   ·obtain ⟨hk2,H⟩:=ck_some H
    obtain ⟨y3,hy3,H⟩:=bind_some' H
    obtain ⟨hk3,H⟩:=ck_some H
    obtain ⟨hk4,H⟩:=ck_some H
    refine .A 20 [.d (.ro (Record.row (nth y2.2 v13l1.toNat))),.d (.agg (Record.row y3)),.d (slOf 12 Record.row ([y3]:List Record)),.a 0 49 12 Record.row (v10l1++([y3]:List Record)),.i (v13l1+1)] rfl ⟨g_addI rfl rfl hk4,s23.a rfl rfl rfl rfl hk3,g_buildSlice1 underlying23 hi49 hs49 hz49 rfl rfl rfl rfl rfl,g_call (en 96 rfl) rfl rfl (c_f_r15_alone (hy3)),s23.ix rfl rfl rfl hk2⟩ ?_
    cases H
    exact .z (ih1 (n1,(v10l1++([y3]:List Record),v13l1+1)) HK1 hm1) rfl rfl
   ·refine .A 6 [] rfl trivial ?_
    refine .R func89 results89 rfl ?_
    cases H
    cases HK1
    exact .m rfl (.tsl _ _ _)
  ·intro hj2
   obtain ⟨y4,hy4,H⟩:=bind_some' H
   refine .A 15 [.d (.tup [.agg (Record.row y4.1),cB y4.2]),.r 0] rfl (g_call (en 64 rfl) rfl rfl (c_f_r15_whole (hy4))) ?_
   refine .ite H rfl (fun H=>?_) (fun H=>?_)
   ·obtain ⟨hk5,H⟩:=ck_some H
    refine .A 7 [.d (slOf 12 Record.row ([y4.1]:List Record)),.a 0 49 12 Record.row (([]:List Record)++([y4.1]:List Record))] rfl ⟨s23.a rfl rfl rfl rfl hk5,g_buildSlice1 underlying23 hi49 hs49 hz49 rfl rfl rfl rfl rfl⟩ ?_
    exact .z (hj2 (([]:List Record)++([y4.1]:List Record),y4.1.source,y4.1.serial,y4.1.kind,y4.1.a,y4.1.b,y4.1.start,y4.1.units,y4.1.call,y4.1.part,y4.1.last,y4.1.trunk,y4.1.inbound) H) rfl rfl
   ·refine .A 1 [] rfl trivial ?_
    exact .z (hj2 (([]:List Record),y4.1.source,y4.1.serial,y4.1.kind,y4.1.a,y4.1.b,y4.1.start,y4.1.units,y4.1.call,y4.1.part,y4.1.last,y4.1.trunk,y4.1.inbound) H) rfl rfl
 ·intro hj1
  refine .A 1 [] rfl trivial ?_
  obtain ⟨n2,H⟩:=loop_some H
  refine .loop (ι:=Nat×(List Int)) (fun ⟨_,v3l2⟩=>[(0,.d (slOf 12 Record.row v0)),(3,.d (slOf 1 rI v3l2))]) (fun ⟨_,v3l2⟩=>⟨[],[]⟩) (fun p=>iter (fun s=>f_r15_end_l2 v0 s) p.1 p.2=some r) (·.1) (n2,y1) H (.cons rfl (.rfl' _) (.cons rfl (.rfl' _) (.nil))) rfl ?_
  rintro ⟨m1,v3l2⟩ HI ih1
  obtain ⟨n1,q1,hm1,H,HK1⟩:=iter_succ HI
  clear HI
  replace H:f_r15_end_l2 v0 v3l2=some q1:=H
  unfold f_r15_end_l2 at H
  refine .A 7 [.i (v3l2.length:Int)] rfl (s69.n rfl rfl) ?_
  refine .ite H rfl (fun H=>?_) (fun H=>?_)
  ·obtain ⟨y5,hy5,H⟩:=bind_some' H
   obtain ⟨y6,hy6,H⟩:=bind_some' H
   refine .A 29 [.d (.tup [slOf 12 Record.row y5.1,slOf 12 Record.row y5.2]),.d (.tup [.agg (Record.row y6.1),cB y6.2]),.r 0] rfl ⟨g_call (en 64 rfl) rfl rfl (c_f_r15_whole (hy6)),g_call (en 66 rfl) rfl rfl (c_f_r15_pick (hy5))⟩ ?_
   refine .ite H rfl (fun H=>?_) (fun H=>?_)
   ·refine .A 1 [] rfl trivial ?_
    obtain ⟨q0,H9,hq0⟩:=map_some' H; clear H; cases hq0
    cases HK1
    have H:=H9
    exact .t 0 0 (hj1 v3l2 H) rfl rfl rfl rfl rfl hS rfl
   ·obtain ⟨hk6,H⟩:=ck_some H
    obtain ⟨hk7,H⟩:=ck_some H
    refine .A 10 [.i (v3l2.length:Int),.i ((v3l2.length:Int) - 1),.d (slOf 1 rI (v3l2.take ((v3l2.length:Int) - 1).toNat))] rfl ⟨OpQ.g (q_slHL (l:=v3l2) (row:=rI) underlying69 hi3 hs3 rfl rfl rfl hk7),g_subI rfl rfl hk6,s69.n rfl rfl⟩ ?_
    cases H
    exact .t 0 0 (ih1 (n1,(v3l2.take ((v3l2.length:Int) - 1).toNat)) HK1 hm1) rfl rfl rfl rfl rfl hS rfl
  ·refine .A 1 [] rfl trivial ?_
   obtain ⟨q0,H9,hq0⟩:=map_some' H; clear H; cases hq0
   cases HK1
   have H:=H9
   exact .z (hj1 v3l2 H) rfl rfl
theorem c_f_r15_Expire {v0open:List Record} {v1before:Int} {r:(List Record)×(List Record)} (H:f_r15_Expire v0open v1before=some r):ACall prog 51 [slOf 12 Record.row v0open,cI v1before] (·=.tup [slOf 12 Record.row r.1,slOf 12 Record.row r.2]):=by
 obtain ⟨i49,hi49,hz49,hs49,hb49⟩:=in_49
 refine ACall.enter' func51 rfl ntmps51 rfl fun S hS=>?_
 unfold f_r15_Expire at H
 refine .A 16 [] rfl trivial ?_
 refine .tok (i:=6) (e:=49) (sz:=12) rfl ?_
 refine .tok (i:=7) (e:=49) (sz:=12) rfl ?_
 obtain ⟨n1,H⟩:=loop_some H
 refine .loop (ι:=Nat×(List Record×List Record×Int)) (fun ⟨_,v6outl1,v7leftl1,v8il1⟩=>[(0,.d (slOf 12 Record.row v0open)),(1,.d (cI v1before)),(6,.tsl 12 (v6outl1.map Record.row) 0),(7,.tsl 12 (v7leftl1.map Record.row) 1),(8,.d (cI v8il1))]) (fun ⟨_,v6outl1,v7leftl1,v8il1⟩=>⟨[],[⟨49,12,v6outl1.length,none⟩,⟨49,12,v7leftl1.length,none⟩]⟩) (fun p=>iter (fun s=>f_r15_Expire_l1 v0open v1before s.1 s.2.1 s.2.2) p.1 p.2=some r) (·.1) (n1,(([]:List Record),([]:List Record),0)) H (.cons rfl (.rfl' _) (.cons rfl (.rfl' _) (.cons rfl (.rfl' _) (.cons rfl (.rfl' _) (.cons rfl (.rfl' _) (.nil)))))) rfl ?_
 rintro ⟨m1,v6outl1,v7leftl1,v8il1⟩ HI ih1
 obtain ⟨n1,q1,hm1,H,HK1⟩:=iter_succ HI
 clear HI
 replace H:f_r15_Expire_l1 v0open v1before v6outl1 v7leftl1 v8il1=some q1:=H
 unfold f_r15_Expire_l1 at H
 refine .A 8 [.i (v0open.length:Int)] rfl (s23.n rfl rfl) ?_
 refine .ite H rfl (fun H=>?_) (fun H=>?_)
 ·refine .A 9 [] rfl trivial ?_
  refine .blockJoin2 (ι:=Int×Bool) (fun ⟨v9kj1,v10latej1⟩=>[(0,.d (slOf 12 Record.row v0open)),(1,.d (cI v1before)),(6,.tsl 12 (v6outl1.map Record.row) 0),(7,.tsl 12 (v7leftl1.map Record.row) 1),(8,.d (cI v8il1)),(9,.d (cI v9kj1)),(10,.d (cB v10latej1))]) (fun ⟨v9kj1,v10latej1⟩=>⟨[],[⟨49,12,v6outl1.length,none⟩,⟨49,12,v7leftl1.length,none⟩]⟩) (fun s=>f_r15_Expire_j1 v0open v6outl1 v7leftl1 v8il1 s.1 s.2=some q1) ?_ ?_
  ·rintro ⟨v9kj1,v10latej1⟩ H
   replace H:f_r15_Expire_j1 v0open v6outl1 v7leftl1 v8il1 v9kj1 v10latej1=some q1:=H
   unfold f_r15_Expire_j1 at H
   refine .A 5 [] rfl trivial ?_
   refine .ite H rfl (fun H=>?_) (fun H=>?_)
   ·obtain ⟨hk1,H⟩:=ck_some H
    obtain ⟨hk2,H⟩:=ck_some H
    refine .A 14 [.d (slOf 12 Record.row ((v0open.take v9kj1.toNat).drop v8il1.toNat)),.a 1 49 12 Record.row (v7leftl1++((v0open.take v9kj1.toNat).drop v8il1.toNat))] rfl ⟨s23.a rfl rfl rfl rfl hk2,OpQ.g (q_slLHL (l:=v0open) (row:=Record.row) underlying23 hi49 hs49 rfl rfl rfl rfl hk1)⟩ ?_
    cases H
    exact .z (ih1 (n1,(v6outl1,v7leftl1++((v0open.take v9kj1.toNat).drop v8il1.toNat),v9kj1)) HK1 hm1) rfl rfl
   ·obtain ⟨hk3,H⟩:=ck_some H
    obtain ⟨y1,hy1,H⟩:=bind_some' H
    obtain ⟨hk4,H⟩:=ck_some H
    refine .A 15 [.d (slOf 12 Record.row ((v0open.take v9kj1.toNat).drop v8il1.toNat)),.d (slOf 12 Record.row y1),.a 0 49 12 Record.row (v6outl1++y1)] rfl ⟨s23.a rfl rfl rfl rfl hk4,g_call (en 97 rfl) rfl rfl (c_f_r15_end (hy1)),OpQ.g (q_slLHL (l:=v0open) (row:=Record.row) underlying23 hi49 hs49 rfl rfl rfl rfl hk3)⟩ ?_
    cases H
    exact .z (ih1 (n1,(v6outl1++y1,v7leftl1,v9kj1)) HK1 hm1) rfl rfl
  ·intro hj1 hj1x
   obtain ⟨n2,H⟩:=loop_some H
   refine .loop (ι:=Nat×(Int×Bool)) (fun ⟨_,v9kl2,v10latel2⟩=>[(0,.d (slOf 12 Record.row v0open)),(1,.d (cI v1before)),(6,.tsl 12 (v6outl1.map Record.row) 0),(7,.tsl 12 (v7leftl1.map Record.row) 1),(8,.d (cI v8il1)),(9,.d (cI v9kl2)),(10,.d (cB v10latel2))]) (fun ⟨_,v9kl2,v10latel2⟩=>⟨[],[⟨49,12,v6outl1.length,none⟩,⟨49,12,v7leftl1.length,none⟩]⟩) (fun p=>iter (fun s=>f_r15_Expire_l2 v0open v1before v6outl1 v7leftl1 v8il1 s.1 s.2) p.1 p.2=some q1) (·.1) (n2,(v8il1,false)) H (.cons rfl (.rfl' _) (.cons rfl (.rfl' _) (.cons rfl (.rfl' _) (.cons rfl (.rfl' _) (.cons rfl (.rfl' _) (.cons rfl (.rfl' _) (.cons rfl (.rfl' _) (.nil)))))))) rfl ?_
   rintro ⟨m2,v9kl2,v10latel2⟩ HI ih2
   obtain ⟨n2,q2,hm2,H,HK2⟩:=iter_succ HI
   clear HI
   replace H:f_r15_Expire_l2 v0open v1before v6outl1 v7leftl1 v8il1 v9kl2 v10latel2=some q2:=H
   unfold f_r15_Expire_l2 at H
   obtain ⟨hk5,H⟩:=ck_some H
   obtain ⟨hk6,H⟩:=ck_some H
   obtain ⟨y2,hy2,H⟩:=bind_some' H
   refine .A 20 [.p 15,.i (v0open.length:Int),.d (.ro (Record.row (nth v0open v9kl2.toNat))),.d (.ro (Record.row (nth v0open v8il1.toNat))),.b y2] rfl ⟨rfl,fun hg=>g_call (en 62 rfl) rfl rfl (c_f_r15_call (gcall_some hy2 hg)),rfl,rfl,rfl,fun hg=>s23.ix rfl rfl rfl (hk6 hg),rfl,rfl,rfl,fun hg=>s23.ix rfl rfl rfl (hk5 hg),rfl,rfl,s23.n rfl rfl,(show drawB _ _=true by kernel_rfl)⟩ ?_
   refine .ite H rfl (fun H=>?_) (fun H=>?_)
   ·obtain ⟨hk7,H⟩:=ck_some H
    obtain ⟨hk8,H⟩:=ck_some H
    refine .A 22 [.d (.ro (Record.row (nth v0open v9kl2.toNat))),.i (v9kl2+1)] rfl ⟨g_addI rfl rfl hk8,rfl,rfl,rfl,rfl,rfl,fun hg=>s23.ix rfl rfl rfl (hk7 hg),rfl,rfl⟩ ?_
    cases H
    exact .z (ih2 (n2,(v9kl2+1,(v10latel2 || (decide (((nth v0open v9kl2.toNat).start)≥v1before))))) HK2 hm2) rfl rfl
   ·refine .A 1 [] rfl trivial ?_
    obtain ⟨q0,H9,hq0⟩:=map_some' H; clear H; cases hq0
    cases HK2
    have H:=H9
    exact .z (hj1x (v9kl2,v10latel2) H) rfl rfl
 ·refine .A 8 [] rfl trivial ?_
  refine .R func51 results51 rfl ?_
  cases H
  cases HK1
  exact .m rfl (.tupL ⟨.tsl _ _ _,.tsl _ _ _,trivial⟩)
set_option maxRecDepth 100000
set_option maxHeartbeats 1000000
theorem c_f_r16_Close {v0in:Intake} {v1before:Int} {r:Intake×(List Record)} (H:f_r16_Close v0in v1before=some r):ACall prog 24 [.agg (Intake.row v0in),cI v1before] (·=.tup [.agg (Intake.row r.1),slOf 12 Record.row r.2]):=by
 obtain ⟨i26,hi26,hz26,hs26,hb26⟩:=in_26
 obtain ⟨i30,hi30,hz30,hs30,hb30⟩:=in_30
 obtain ⟨i65,hi65,hz65,hs65,hb65⟩:=in_65
 refine ACall.enter' func24 rfl ntmps24 rfl fun S hS=>?_
 unfold f_r16_Close at H
 obtain ⟨y1,hy1,H⟩:=bind_some' H
 refine .A 19 [.r 0,.r 1,.d (.tup [slOf 12 Record.row y1.1,slOf 12 Record.row y1.2])] rfl (g_call (en 98 rfl) rfl rfl (c_f_r15_Expire (hy1))) ?_
 obtain ⟨hk1,H⟩:=ck_some H
 obtain ⟨hk2,H⟩:=ck_some H
 refine .orders1 12 11 [⟨[.row 26 [.d (slOf 3 Range.row v0in.seen),.d (slOf 12 Record.row v0in.open_),.d (slOf 4 Head.row v0in.heads)],.row 26 [.d (nilD),.d (nilD),.d (nilD)]],[]⟩,⟨[.row 26 [.d (slOf 3 Range.row v0in.seen),.d (slOf 12 Record.row v0in.open_),.d (slOf 4 Head.row v0in.heads)],.row 26 [.d (slOf 3 Range.row v0in.seen),.d (slOf 12 Record.row y1.2),.d (slOf 4 Head.row v0in.heads)]],[]⟩] hMix (by kernel_rfl) (by decide) rfl ?_
 show XOps _ _ _ _ _ _ _ _ _ _ (_ :: _) _ _
 refine .g (x:=.d (.e0 3)) 0 0 ⟨((hs65▸g_buildSlice0 underlying22 hi65)),trivial⟩ rfl (by kernel_rfl) rfl ?_
 refine .g (x:=.ref 0 0) 0 0 ⟨OpQ.g (q_fieldRef fo_26_0 rfl),trivial⟩ rfl (by kernel_rfl) rfl ?_
 refine .g (x:=.d (slOf 3 Range.row v0in.seen)) 0 0 ⟨OpQ.g (q_loadO one_22 rfl rfl rfl),trivial⟩ rfl (by kernel_rfl) rfl ?_
 refine .g (x:=.d (slOf 3 Range.row v0in.seen)) 0 0 ⟨(g_append0L (l':=v0in.seen) (row:=Range.row) underlying22 hi65 hz65 hs65 rfl (by rw [hb65]; decide) rfl (.inl rfl) rfl rfl hk1),trivial⟩ rfl (by kernel_rfl) rfl ?_
 refine .g (x:=.d (slOf 12 Record.row y1.2)) 0 0 ⟨OpQ.g (q_move rfl),trivial⟩ rfl (by kernel_rfl) rfl ?_
 refine .g (x:=.d (.e0 4)) 0 0 ⟨((hs30▸g_buildSlice0 underlying24 hi30)),trivial⟩ rfl (by kernel_rfl) rfl ?_
 refine .g (x:=.ref 0 2) 0 0 ⟨OpQ.g (q_fieldRef fo_26_2 rfl),trivial⟩ rfl (by kernel_rfl) rfl ?_
 refine .g (x:=.d (slOf 4 Head.row v0in.heads)) 0 0 ⟨OpQ.g (q_loadO one_24 rfl rfl rfl),trivial⟩ rfl (by kernel_rfl) rfl ?_
 refine .g (x:=.d (slOf 4 Head.row v0in.heads)) 0 0 ⟨(g_append0L (l':=v0in.heads) (row:=Head.row) underlying24 hi30 hz30 hs30 rfl (by rw [hb30]; decide) rfl (.inl rfl) rfl rfl hk2),trivial⟩ rfl (by kernel_rfl) rfl ?_
 refine .g (x:=.d (.agg (Intake.row (⟨v0in.seen,y1.2,v0in.heads⟩:Intake)))) 0 0 ⟨OpQ.g (q_buildP pl_26 hi26 hz26 rfl rfl),trivial⟩ rfl (by kernel_rfl) rfl ?_
 refine .g (x:=.d (slOf 12 Record.row y1.1)) 0 1 ⟨OpQ.g (q_move rfl),OpQ.g (q_move rfl),trivial⟩ rfl (by kernel_rfl) rfl ?_
 refine .u 0 (u_store rfl rfl rfl rfl (Nat.le_of_ble_eq_true rfl) sz_26) rfl rfl rfl rfl ?_
 refine .nil rfl ?_
 show AOps _ _ _ _ _ _ (_ :: _) _ _ _
 refine .A 2 [] rfl trivial ?_
 refine .R func24 results24 rfl ?_
 cases H
 exact .m rfl (.tupD rfl)
theorem c_f_w16_IntakeRuns {v0:List Billinglaw16Step} {r:Bool} (H:f_w16_IntakeRuns v0=some r):ACall prog 8 [slOf 8 Billinglaw16Step.row v0] (·=cB r):=by
 obtain ⟨i26,hi26,hz26,hs26,hb26⟩:=in_26
 refine ACall.enter' func8 rfl ntmps8 rfl fun S hS=>?_
 unfold f_w16_IntakeRuns at H
 refine .A 11 [.i (v0.length:Int)] rfl (s55.n rfl rfl) ?_
 refine .ite H rfl (fun H=>?_) (fun H=>?_)
 ·obtain ⟨y1,hy1,H⟩:=bind_some' H
  refine .A 5 [.b y1] rfl (g_call (en 75 rfl) rfl rfl (c_f_w16_awake (hy1))) ?_
  refine .R func8 results8 rfl ?_
  cases H
  exact .m rfl (.rfl' _)
 ·refine .A 16 [.d (.agg (Intake.row (⟨([]:List Range),([]:List Record),([]:List Head)⟩:Intake))),.d (.agg (Intake.row (⟨([]:List Range),([]:List Record),([]:List Head)⟩:Intake))),.r 0,.r 1] rfl ⟨OpQ.g (OpQ.le (q_buildP pl_26 hi26 hz26 rfl rfl) (EVle.d (.agg ⟨.nil 3,.nil 12,.nil 4,trivial⟩))),OpQ.g (OpQ.le (q_buildP pl_26 hi26 hz26 rfl rfl) (EVle.d (.agg ⟨.nil 3,.nil 12,.nil 4,trivial⟩)))⟩ ?_
  obtain ⟨n1,H⟩:=loop_some H
  refine .loop (ι:=Nat×(Int×List Range×List Record×List Head×List Range×List Record×List Head)) (fun ⟨_,v5l1,o0c0l1,o0c1l1,o0c2l1,o1c0l1,o1c1l1,o1c2l1⟩=>[(0,.d (slOf 8 Billinglaw16Step.row v0)),(3,.ref 0 0),(4,.ref 1 0),(5,.d (cI v5l1))]) (fun ⟨_,v5l1,o0c0l1,o0c1l1,o0c2l1,o1c0l1,o1c1l1,o1c2l1⟩=>⟨[.row 26 [.d (slOf 3 Range.row o0c0l1),.d (slOf 12 Record.row o0c1l1),.d (slOf 4 Head.row o0c2l1)],.row 26 [.d (slOf 3 Range.row o1c0l1),.d (slOf 12 Record.row o1c1l1),.d (slOf 4 Head.row o1c2l1)]],[]⟩) (fun p=>iter (fun s=>f_w16_IntakeRuns_l1 v0 s.1 s.2.1 s.2.2.1 s.2.2.2.1 s.2.2.2.2.1 s.2.2.2.2.2.1 s.2.2.2.2.2.2) p.1 p.2=some r) (·.1) (n1,(0,([]:List Range),([]:List Record),([]:List Head),([]:List Range),([]:List Record),([]:List Head))) H (.cons rfl (.rfl' _) (.cons rfl (.rfl' _) (.cons rfl (.rfl' _) (.cons rfl (.rfl' _) (.nil))))) rfl ?_
  rintro ⟨m1,v5l1,o0c0l1,o0c1l1,o0c2l1,o1c0l1,o1c1l1,o1c2l1⟩ HI ih1
  obtain ⟨n1,q1,hm1,H,HK1⟩:=iter_succ HI
  clear HI
  replace H:f_w16_IntakeRuns_l1 v0 v5l1 o0c0l1 o0c1l1 o0c2l1 o1c0l1 o1c1l1 o1c2l1=some q1:=H
  unfold f_w16_IntakeRuns_l1 at H
  refine .A 8 [.i (v0.length:Int)] rfl (s55.n rfl rfl) ?_
  refine .ite H rfl (fun H=>?_) (fun H=>?_)
  ·obtain ⟨hk1,H⟩:=ck_some H
   obtain ⟨y2,hy2,H⟩:=bind_some' H
   refine .A 21 [.d (.ro (Billinglaw16Step.row (nth v0 v5l1.toNat))),.r 2,.b y2] rfl ⟨g_call (en 0 rfl) rfl rfl (c_f_w16_few (hy2)),s55.ix rfl rfl rfl hk1⟩ ?_
   refine .ite H rfl (fun H=>?_) (fun H=>?_)
   ·obtain ⟨y3,hy3,H⟩:=bind_some' H
    refine .A 5 [.b y3] rfl (g_call (en 75 rfl) rfl rfl (c_f_w16_awake (hy3))) ?_
    refine .R func8 results8 rfl ?_
    cases H
    cases HK1
    exact .m rfl (.rfl' _)
   ·refine .A 1 [] rfl trivial ?_
    refine .seqJoin (ι:=List Range×List Record×List Head×List Range×List Record×List Head×List Range×List Record×List Head×List Range×List Record×List Head) (fun ⟨o0c0j1,o0c1j1,o0c2j1,o1c0j1,o1c1j1,o1c2j1,o3c0j1,o3c1j1,o3c2j1,o4c0j1,o4c1j1,o4c2j1⟩=>[(0,.d (slOf 8 Billinglaw16Step.row v0)),(3,.ref 0 0),(4,.ref 1 0),(5,.d (cI v5l1))]) (fun ⟨o0c0j1,o0c1j1,o0c2j1,o1c0j1,o1c1j1,o1c2j1,o3c0j1,o3c1j1,o3c2j1,o4c0j1,o4c1j1,o4c2j1⟩=>⟨[.row 26 [.d (slOf 3 Range.row o0c0j1),.d (slOf 12 Record.row o0c1j1),.d (slOf 4 Head.row o0c2j1)],.row 26 [.d (slOf 3 Range.row o1c0j1),.d (slOf 12 Record.row o1c1j1),.d (slOf 4 Head.row o1c2j1)],.row 57 [.d (cI (((nth v0 v5l1.toNat).batch).source)),.d (cI (((nth v0 v5l1.toNat).batch).number)),.d (cI (((nth v0 v5l1.toNat).batch).format)),.d (slOf 12 Record.row (((nth v0 v5l1.toNat).batch).records)),.d (cI (((nth v0 v5l1.toNat).window).earliest)),.d (cI (((nth v0 v5l1.toNat).window).latest)),.d (cB ((nth v0 v5l1.toNat).close)),.d (cI ((nth v0 v5l1.toNat).before))],.row 26 [.d (slOf 3 Range.row o3c0j1),.d (slOf 12 Record.row o3c1j1),.d (slOf 4 Head.row o3c2j1)],.row 26 [.d (slOf 3 Range.row o4c0j1),.d (slOf 12 Record.row o4c1j1),.d (slOf 4 Head.row o4c2j1)]],[]⟩) (fun s=>f_w16_IntakeRuns_j1 v5l1 s.1 s.2.1 s.2.2.1 s.2.2.2.1 s.2.2.2.2.1 s.2.2.2.2.2.1 s.2.2.2.2.2.2.1 s.2.2.2.2.2.2.2.1 s.2.2.2.2.2.2.2.2.1 s.2.2.2.2.2.2.2.2.2.1 s.2.2.2.2.2.2.2.2.2.2.1 s.2.2.2.2.2.2.2.2.2.2.2=some q1) ?_ ?_
    ·rintro ⟨o0c0j1,o0c1j1,o0c2j1,o1c0j1,o1c1j1,o1c2j1,o3c0j1,o3c1j1,o3c2j1,o4c0j1,o4c1j1,o4c2j1⟩ H
     replace H:f_w16_IntakeRuns_j1 v5l1 o0c0j1 o0c1j1 o0c2j1 o1c0j1 o1c1j1 o1c2j1 o3c0j1 o3c1j1 o3c2j1 o4c0j1 o4c1j1 o4c2j1=some q1:=H
     unfold f_w16_IntakeRuns_j1 at H
     obtain ⟨y4,hy4,H⟩:=bind_some' H
     obtain ⟨y5,hy5,H⟩:=bind_some' H
     refine .A 12 [.b y4,.b y5] rfl ⟨rfl,rfl,fun hg=>g_call (en 56 rfl) rfl rfl (c_f_intake_Check (gcall_some hy5 hg)),rfl,g_call (en 89 rfl) rfl rfl (c_f_r16_Same (hy4))⟩ ?_
     refine .ite H rfl (fun H=>?_) (fun H=>?_)
     ·refine .A 4 [] rfl trivial ?_
      refine .R func8 results8 rfl ?_
      cases H
      cases HK1
      exact .m rfl (.rfl' _)
     ·obtain ⟨hk2,H⟩:=ck_some H
      refine .A 7 [.i (v5l1+1)] rfl (g_addI rfl rfl hk2) ?_
      cases H
      exact .t 2 0 (ih1 (n1,(v5l1+1,o0c0j1,o0c1j1,o0c2j1,o1c0j1,o1c1j1,o1c2j1)) HK1 hm1) rfl rfl rfl rfl rfl hS rfl
    ·intro hj1
     refine .A 5 [] rfl trivial ?_
     refine .ite H rfl (fun H=>?_) (fun H=>?_)
     ·obtain ⟨y6,hy6,H⟩:=bind_some' H
      obtain ⟨y7,hy7,H⟩:=bind_some' H
      obtain ⟨y8,hy8,H⟩:=bind_some' H
      refine .A 34 [.d (.tup [.agg (Intake.row y6.1),slOf 12 Record.row y6.2]),.r 3,.d (.tup [.agg (Intake.row y7.1),slOf 12 Record.row y7.2]),.r 4,.b y8] rfl ⟨g_call (en 88 rfl) rfl rfl (c_f_r13_Same (hy8)),g_call (en 99 rfl) rfl rfl (c_f_r16_Close (hy7)),g_call (en 100 rfl) rfl rfl (c_f_intake_Close (hy6))⟩ ?_
      refine .ite H rfl (fun H=>?_) (fun H=>?_)
      ·refine .A 4 [] rfl trivial ?_
       refine .R func8 results8 rfl ?_
       cases H
       cases HK1
       exact .m rfl (.rfl' _)
      ·refine .A 1 [] rfl trivial ?_
       refine .orders1 3 2 [⟨[.row 26 [.d (slOf 3 Range.row o0c0l1),.d (slOf 12 Record.row o0c1l1),.d (slOf 4 Head.row o0c2l1)],.row 26 [.d (slOf 3 Range.row o1c0l1),.d (slOf 12 Record.row o1c1l1),.d (slOf 4 Head.row o1c2l1)],.row 57 [.d (cI (((nth v0 v5l1.toNat).batch).source)),.d (cI (((nth v0 v5l1.toNat).batch).number)),.d (cI (((nth v0 v5l1.toNat).batch).format)),.d (slOf 12 Record.row (((nth v0 v5l1.toNat).batch).records)),.d (cI (((nth v0 v5l1.toNat).window).earliest)),.d (cI (((nth v0 v5l1.toNat).window).latest)),.d (cB ((nth v0 v5l1.toNat).close)),.d (cI ((nth v0 v5l1.toNat).before))],.row 26 [.d (slOf 3 Range.row y6.1.seen),.d (slOf 12 Record.row y6.1.open_),.d (slOf 4 Head.row y6.1.heads)],.row 26 [.d (slOf 3 Range.row y7.1.seen),.d (slOf 12 Record.row y7.1.open_),.d (slOf 4 Head.row y7.1.heads)]],[]⟩,⟨[.row 26 [.d (slOf 3 Range.row y6.1.seen),.d (slOf 12 Record.row y6.1.open_),.d (slOf 4 Head.row y6.1.heads)],.row 26 [.d (slOf 3 Range.row o1c0l1),.d (slOf 12 Record.row o1c1l1),.d (slOf 4 Head.row o1c2l1)],.row 57 [.d (cI (((nth v0 v5l1.toNat).batch).source)),.d (cI (((nth v0 v5l1.toNat).batch).number)),.d (cI (((nth v0 v5l1.toNat).batch).format)),.d (slOf 12 Record.row (((nth v0 v5l1.toNat).batch).records)),.d (cI (((nth v0 v5l1.toNat).window).earliest)),.d (cI (((nth v0 v5l1.toNat).window).latest)),.d (cB ((nth v0 v5l1.toNat).close)),.d (cI ((nth v0 v5l1.toNat).before))],.row 26 [.d (slOf 3 Range.row y6.1.seen),.d (slOf 12 Record.row y6.1.open_),.d (slOf 4 Head.row y6.1.heads)],.row 26 [.d (slOf 3 Range.row y7.1.seen),.d (slOf 12 Record.row y7.1.open_),.d (slOf 4 Head.row y7.1.heads)]],[]⟩] hMix (by kernel_rfl) (by decide) rfl ?_
       show XOps _ _ _ _ _ _ _ _ _ _ (_ :: _) _ _
       refine .g (x:=.d (.agg (Intake.row y6.1))) 0 0 ⟨OpQ.g (q_loadOA one_26 sz_26 rfl rfl (Nat.le_of_ble_eq_true rfl) rfl),trivial⟩ rfl (by kernel_rfl) rfl ?_
       refine .g (x:=.d (.agg (Intake.row y7.1))) 0 1 ⟨OpQ.g (q_loadOA one_26 sz_26 rfl rfl (Nat.le_of_ble_eq_true rfl) rfl),OpQ.g (q_loadOA one_26 sz_26 rfl rfl (Nat.le_of_ble_eq_true rfl) rfl),trivial⟩ rfl (by kernel_rfl) rfl ?_
       refine .u 0 (u_store rfl rfl rfl rfl (Nat.le_of_ble_eq_true rfl) sz_26) rfl rfl rfl rfl ?_
       refine .nil rfl ?_
       show AOps _ _ _ _ _ _ (_ :: _) _ _ _
       refine .A 2 [] rfl trivial ?_
       exact .z (hj1 (y6.1.seen,y6.1.open_,y6.1.heads,y7.1.seen,y7.1.open_,y7.1.heads,y6.1.seen,y6.1.open_,y6.1.heads,y7.1.seen,y7.1.open_,y7.1.heads) H) rfl rfl
     ·obtain ⟨y9,hy9,H⟩:=bind_some' H
      obtain ⟨y10,hy10,H⟩:=bind_some' H
      obtain ⟨y11,hy11,H⟩:=bind_some' H
      obtain ⟨y12,hy12,H⟩:=bind_some' H
      obtain ⟨y13,hy13,H⟩:=bind_some' H
      refine .A 66 [.i y9,.d (.tup [.agg (Intake.row y10.1),slOf 12 Record.row y10.2.1,slOf 4 Reject.row y10.2.2.1,cI y10.2.2.2]),.r 3,.d (.tup [.agg (Intake.row y11.1),slOf 12 Record.row y11.2.1,slOf 4 Reject.row y11.2.2.1,cI y11.2.2.2]),.r 4,.b y12,.b y13] rfl ⟨rfl,rfl,fun hg=>g_call (en 87 rfl) rfl rfl (c_f_r13_SameRejects (gcall_some hy13 hg)),rfl,rfl,rfl,rfl,fun hg=>g_call (en 88 rfl) rfl rfl (c_f_r13_Same (gcall_some hy12 hg)),rfl,rfl,g_call (en 90 rfl) rfl rfl (c_f_r16_Accept (hy11)),g_call (en 55 rfl) rfl rfl (c_f_intake_Accept (hy10)),g_call (en 44 rfl) rfl rfl (c_f_intake_Next (hy9))⟩ ?_
      refine .ite H rfl (fun H=>?_) (fun H=>?_)
      ·refine .A 4 [] rfl trivial ?_
       refine .R func8 results8 rfl ?_
       cases H
       cases HK1
       exact .m rfl (.rfl' _)
      ·refine .A 1 [] rfl trivial ?_
       refine .seqJoin (ι:=Int×List Range×List Record×List Head×List Range×List Record×List Head) (fun ⟨v11j2,o0c0j2,o0c1j2,o0c2j2,o1c0j2,o1c1j2,o1c2j2⟩=>[(0,.d (slOf 8 Billinglaw16Step.row v0)),(3,.ref 0 0),(4,.ref 1 0),(5,.d (cI v5l1)),(6,.ref 2 0),(11,.d (cI v11j2))]) (fun ⟨v11j2,o0c0j2,o0c1j2,o0c2j2,o1c0j2,o1c1j2,o1c2j2⟩=>⟨[.row 26 [.d (slOf 3 Range.row o0c0j2),.d (slOf 12 Record.row o0c1j2),.d (slOf 4 Head.row o0c2j2)],.row 26 [.d (slOf 3 Range.row o1c0j2),.d (slOf 12 Record.row o1c1j2),.d (slOf 4 Head.row o1c2j2)],.row 57 [.d (cI (((nth v0 v5l1.toNat).batch).source)),.d (cI (((nth v0 v5l1.toNat).batch).number)),.d (cI (((nth v0 v5l1.toNat).batch).format)),.d (slOf 12 Record.row (((nth v0 v5l1.toNat).batch).records)),.d (cI (((nth v0 v5l1.toNat).window).earliest)),.d (cI (((nth v0 v5l1.toNat).window).latest)),.d (cB ((nth v0 v5l1.toNat).close)),.d (cI ((nth v0 v5l1.toNat).before))],.row 26 [.d (slOf 3 Range.row y10.1.seen),.d (slOf 12 Record.row y10.1.open_),.d (slOf 4 Head.row y10.1.heads)],.row 26 [.d (slOf 3 Range.row y11.1.seen),.d (slOf 12 Record.row y11.1.open_),.d (slOf 4 Head.row y11.1.heads)]],[]⟩) (fun s=>f_w16_IntakeRuns_j2 v0 v5l1 y10 y11 s.1 s.2.1 s.2.2.1 s.2.2.2.1 s.2.2.2.2.1 s.2.2.2.2.2.1 s.2.2.2.2.2.2=some q1) ?_ ?_
       ·rintro ⟨v11j2,o0c0j2,o0c1j2,o0c2j2,o1c0j2,o1c1j2,o1c2j2⟩ H
        replace H:f_w16_IntakeRuns_j2 v0 v5l1 y10 y11 v11j2 o0c0j2 o0c1j2 o0c2j2 o1c0j2 o1c1j2 o1c2j2=some q1:=H
        unfold f_w16_IntakeRuns_j2 at H
        obtain ⟨y14,hy14,H⟩:=bind_some' H
        refine .A 10 [.i y14] rfl (g_call (en 44 rfl) rfl rfl (c_f_intake_Next (hy14))) ?_
        refine .ite H rfl (fun H=>?_) (fun H=>?_)
        ·refine .A 4 [] rfl trivial ?_
         refine .R func8 results8 rfl ?_
         cases H
         cases HK1
         exact .m rfl (.rfl' _)
        ·refine .A 1 [] rfl trivial ?_
         exact .z (hj1 (o0c0j2,o0c1j2,o0c2j2,o1c0j2,o1c1j2,o1c2j2,y10.1.seen,y10.1.open_,y10.1.heads,y11.1.seen,y11.1.open_,y11.1.heads) H) rfl rfl
       ·intro hj2
        refine .A 5 [] rfl trivial ?_
        refine .ite H rfl (fun H=>?_) (fun H=>?_)
        ·refine .A 1 [] rfl trivial ?_
         refine .orders1 3 2 [⟨[.row 26 [.d (slOf 3 Range.row o0c0l1),.d (slOf 12 Record.row o0c1l1),.d (slOf 4 Head.row o0c2l1)],.row 26 [.d (slOf 3 Range.row o1c0l1),.d (slOf 12 Record.row o1c1l1),.d (slOf 4 Head.row o1c2l1)],.row 57 [.d (cI (((nth v0 v5l1.toNat).batch).source)),.d (cI (((nth v0 v5l1.toNat).batch).number)),.d (cI (((nth v0 v5l1.toNat).batch).format)),.d (slOf 12 Record.row (((nth v0 v5l1.toNat).batch).records)),.d (cI (((nth v0 v5l1.toNat).window).earliest)),.d (cI (((nth v0 v5l1.toNat).window).latest)),.d (cB ((nth v0 v5l1.toNat).close)),.d (cI ((nth v0 v5l1.toNat).before))],.row 26 [.d (slOf 3 Range.row y10.1.seen),.d (slOf 12 Record.row y10.1.open_),.d (slOf 4 Head.row y10.1.heads)],.row 26 [.d (slOf 3 Range.row y11.1.seen),.d (slOf 12 Record.row y11.1.open_),.d (slOf 4 Head.row y11.1.heads)]],[]⟩,⟨[.row 26 [.d (slOf 3 Range.row y10.1.seen),.d (slOf 12 Record.row y10.1.open_),.d (slOf 4 Head.row y10.1.heads)],.row 26 [.d (slOf 3 Range.row o1c0l1),.d (slOf 12 Record.row o1c1l1),.d (slOf 4 Head.row o1c2l1)],.row 57 [.d (cI (((nth v0 v5l1.toNat).batch).source)),.d (cI (((nth v0 v5l1.toNat).batch).number)),.d (cI (((nth v0 v5l1.toNat).batch).format)),.d (slOf 12 Record.row (((nth v0 v5l1.toNat).batch).records)),.d (cI (((nth v0 v5l1.toNat).window).earliest)),.d (cI (((nth v0 v5l1.toNat).window).latest)),.d (cB ((nth v0 v5l1.toNat).close)),.d (cI ((nth v0 v5l1.toNat).before))],.row 26 [.d (slOf 3 Range.row y10.1.seen),.d (slOf 12 Record.row y10.1.open_),.d (slOf 4 Head.row y10.1.heads)],.row 26 [.d (slOf 3 Range.row y11.1.seen),.d (slOf 12 Record.row y11.1.open_),.d (slOf 4 Head.row y11.1.heads)]],[]⟩] hMix (by kernel_rfl) (by decide) rfl ?_
         show XOps _ _ _ _ _ _ _ _ _ _ (_ :: _) _ _
         refine .g (x:=.d (.agg (Intake.row y10.1))) 0 0 ⟨OpQ.g (q_loadOA one_26 sz_26 rfl rfl (Nat.le_of_ble_eq_true rfl) rfl),trivial⟩ rfl (by kernel_rfl) rfl ?_
         refine .g (x:=.d (.agg (Intake.row y11.1))) 0 1 ⟨OpQ.g (q_loadOA one_26 sz_26 rfl rfl (Nat.le_of_ble_eq_true rfl) rfl),OpQ.g (q_loadOA one_26 sz_26 rfl rfl (Nat.le_of_ble_eq_true rfl) rfl),trivial⟩ rfl (by kernel_rfl) rfl ?_
         refine .u 0 (u_store rfl rfl rfl rfl (Nat.le_of_ble_eq_true rfl) sz_26) rfl rfl rfl rfl ?_
         refine .nil rfl ?_
         show AOps _ _ _ _ _ _ (_ :: _) _ _ _
         obtain ⟨hk3,H⟩:=ck_some H
         refine .A 7 [.i (y9+1)] rfl (g_addI rfl rfl hk3) ?_
         exact .z (hj2 (y9+1,y10.1.seen,y10.1.open_,y10.1.heads,y11.1.seen,y11.1.open_,y11.1.heads) H) rfl rfl
        ·refine .A 1 [] rfl trivial ?_
         exact .z (hj2 (y9,o0c0l1,o0c1l1,o0c2l1,o1c0l1,o1c1l1,o1c2l1) H) rfl rfl
  ·obtain ⟨y15,hy15,H⟩:=bind_some' H
   refine .A 6 [.b y15] rfl (g_call (en 75 rfl) rfl rfl (c_f_w16_awake (hy15))) ?_
   refine .R func8 results8 rfl ?_
   cases H
   cases HK1
   exact .m rfl (.rfl' _)
end Go.Proofs.YtpnegjippkneoaaGreatDoor
namespace Go.Proofs.YtpnegjippkneoaaGreatDoor
open Go.RowKit Go.Abs
theorem gcall_mk {α:Type} [Inhabited α] {b:Bool} {x:α}:gcall b (some x)=some (if b=true then x else default):=by
 unfold gcall; split <;> rfl
theorem loop_all {α R:Type} [Inhabited α] {step:Int→Option (Int ⊕ R)} (l:List α) (p:α→Bool) (fin bad:R) (hl:l.length < 18446744073709551616)
  (h1:∀ i:Int,0≤i→i < (l.length:Int)→step i=some (if p (nth l i.toNat)=true then .inl (i+1) else .inr bad)) (h2:∀ i:Int,i=(l.length:Int)→step i=some (.inr fin)):loop step 0=some (if l.all p=true then fin else bad):=by
 have:=loop_spec (step:=step) (fun i:Int=>some (if (l.drop i.toNat).all p=true then fin else bad)) (fun i=>0≤i∧i≤(l.length:Int)) (fun i=>((l.length:Int) - i).toNat) (fun i hI=>by
  by_cases hi:i < (l.length:Int)
  ·have hd:=drop_nth (l:=l) (k:=i.toNat) (by omega)
   rw [h1 i hI.1 hi]
   by_cases hp:p (nth l i.toNat)=true
   ·rw [if_pos hp]
    refine .inr ⟨i+1,rfl,⟨by omega,by omega⟩,by omega,?_⟩
    rw [show (i+1).toNat=i.toNat+1 from by omega,hd]
    simp [hp]
   ·rw [if_neg hp]
    refine .inl ⟨bad,rfl,?_⟩
    rw [hd]
    simp [hp]
  ·have:i=(l.length:Int):=by omega
   refine .inl ⟨fin,h2 i this,?_⟩
   rw [List.drop_of_length_le (by omega)]
   simp) (s:=0) ⟨by omega,by omega⟩ (by omega)
 simpa using this
def isDig (c:UInt8):Bool:=decide (48≤c) && decide (c≤57)
def validB (s:List UInt8):Bool:=s.all isDig && decide (1≤s.length) && decide (s.length≤15)
theorem p_Valid (s:List UInt8) (hl:s.length < 1000000000):f_digits_Valid s=some (validB s):=by
 unfold f_digits_Valid
 rw [loop_all s isDig (decide ((s.length:Int)≥1) && decide ((s.length:Int)≤15)) false (by omega) (fun i h0 h1=>?_) (fun i hi=>?_)]
 ·unfold validB
  cases s.all isDig <;> simp
  rw [Bool.eq_iff_iff]; simp; omega
 ·unfold f_digits_Valid_l1 f_digits_digit
  rw [if_pos (by simpa using h1),ck_pos (by omega)]
  simp only [Option.bind_some]
  rw [ck_pos (by omega)]
  unfold isDig
  simp only [ge_iff_le]
  cases decide (48≤nth s i.toNat) <;> cases decide (nth s i.toNat≤57) <;> rfl
 ·unfold f_digits_Valid_l1 f_digits_Valid_j1
  rw [if_neg (by simp; omega)]
  rfl
theorem p_rValid (s:List UInt8) (hl:s.length < 1000000000):f_r02_Valid s=some (validB s):=by
 unfold f_r02_Valid
 rw [loop_all s isDig (decide ((s.length:Int)≥1) && decide ((s.length:Int)≤15)) false (by omega) (fun i h0 h1=>?_) (fun i hi=>?_)]
 ·unfold validB
  cases s.all isDig <;> simp
  rw [Bool.eq_iff_iff]; simp; omega
 ·unfold f_r02_Valid_l1
  rw [if_pos (by simpa using h1),ck_pos (by omega),ck_pos (by omega),ck_pos (by omega)]
  unfold isDig
  have e1:decide (nth s i.toNat < 48)=!decide (48≤nth s i.toNat):=by rw [←decide_not]; simp
  have e2:decide (nth s i.toNat > 57)=!decide (nth s i.toNat≤57):=by rw [←decide_not]; simp
  rw [e1,e2]
  cases decide (48≤nth s i.toNat) <;> cases decide (nth s i.toNat≤57) <;> rfl
 ·unfold f_r02_Valid_l1 f_r02_Valid_j1
  rw [if_neg (by simp; omega)]
  rfl
def errF (r:Record):Int :=
 if ¬(1≤r.source∧r.source≤99∧1≤r.serial∧r.serial≤999999999) then 6
 else if ¬(1≤r.kind∧r.kind≤4) then 7
 else if validB r.a=false∨(validB r.b=false∧¬((r.kind=3∨r.kind=4)∧r.b=[])) then 12
 else if ¬(0≤r.start∧r.start≤12622780799) then 15
 else if ¬(0≤r.units∧r.units≤1099511627776)∨(r.kind=1∧r.units > 604800) then 6
 else if r.kind=1∧r.start+r.units > 12622780800 then 15
 else if ¬(0≤r.call∧r.call≤999999999∧0≤r.part∧r.part≤99) then 6
 else if ¬(r.part=0↔r.call=0)∨(r.last=true∧r.part=0) then 8
 else if ¬(0≤r.trunk∧r.trunk≤999) then 6
 else if r.inbound=true∧r.trunk=0 then 8
 else 0
theorem ite_same {α:Type} {b:Bool} {p:Prop} [Decidable p] {x y x' y':α} (h:b=true↔p) (hx:p→x=x') (hy:¬p→y=y'):(if b=true then x else y)=if p then x' else y':=by
 by_cases hp:p
 ·rw [if_pos hp,if_pos (h.2 hp),hx hp]
 ·rw [if_neg hp,if_neg (fun hb=>hp (h.1 hb)),hy hp]
theorem ite_some {α:Type} {p:Prop} [Decidable p] {x y:α}:(if p then some x else some y)=some (if p then x else y):=by split <;> rfl
theorem p_check (r:Record) (ha:r.a.length < 1000000000) (hb:r.b.length < 1000000000):f_textual_check r=some (errF r):=by
 have key:∀ m,(m=1099511627776∧r.kind≠1)∨(m=604800∧r.kind=1)→f_textual_check_j1 r m=some (errF r):=by
  intro m hm
  unfold f_textual_check_j1 errF
  simp only [f_textual_within,p_Valid _ ha,p_Valid _ hb,Option.bind_some,gcall_mk]
  simp only [←ite_some]
  refine ite_same (by simp; grind) (fun _=>rfl) (fun h1=>?_)
  refine ite_same (by simp; grind) (fun _=>rfl) (fun h2=>?_)
  refine ite_same (by simp; grind) (fun _=>rfl) (fun h3=>?_)
  refine ite_same (by simp; grind) (fun _=>rfl) (fun h4=>?_)
  refine ite_same (by simp; grind) (fun _=>rfl) (fun h5=>?_)
  rw [ck_pos (by omega)]
  refine ite_same (by simp) (fun _=>rfl) (fun h6=>?_)
  refine ite_same (by simp; grind) (fun _=>rfl) (fun h7=>?_)
  refine ite_same (by simp; grind) (fun _=>rfl) (fun h8=>?_)
  refine ite_same (by simp; grind) (fun _=>rfl) (fun h9=>?_)
  refine ite_same (by simp) (fun _=>rfl) (fun h10=>rfl)
 unfold f_textual_check
 split
 ·rename_i h
  exact key _ (.inr ⟨rfl,by simpa using h⟩)
 ·rename_i h
  exact key _ (.inl ⟨rfl,by simpa using h⟩)
theorem p_rError (r:Record) (ha:r.a.length < 1000000000) (hb:r.b.length < 1000000000):f_r09_Error r=some (errF r):=by
 unfold f_r09_Error errF
 simp only [f_r09_in,p_rValid _ ha,p_rValid _ hb,Option.bind_some,gcall_mk]
 simp only [←ite_some]
 refine ite_same (by simp; grind) (fun _=>rfl) (fun h1=>?_)
 refine ite_same (by simp; grind) (fun _=>rfl) (fun h2=>?_)
 by_cases hva:validB r.a=true
 ·rw [if_neg (by simp [hva])]
  refine ite_same (by simp [hva]; grind) (fun _=>rfl) (fun h3=>?_)
  refine ite_same (by simp; grind) (fun _=>rfl) (fun h4=>?_)
  refine ite_same (by simp; grind) (fun _=>rfl) (fun h5=>?_)
  rw [ck_pos (by omega)]
  refine ite_same (by simp) (fun _=>rfl) (fun h6=>?_)
  refine ite_same (by simp; grind) (fun _=>rfl) (fun h7=>?_)
  refine ite_same (by simp; grind) (fun _=>rfl) (fun h8=>?_)
  refine ite_same (by simp; grind) (fun _=>rfl) (fun h9=>?_)
  refine ite_same (by simp) (fun _=>rfl) (fun h10=>rfl)
 ·rw [if_pos (by simp [hva]),if_pos (by simp [hva])]
structure Good (r:Record):Prop where
 source:1≤r.source∧r.source≤99
 serial:1≤r.serial∧r.serial≤999999999
 kind:1≤r.kind∧r.kind≤4
 a:validB r.a=true
 b:validB r.b=true∨(r.kind=3∨r.kind=4)∧r.b=[]
 start:0≤r.start∧r.start≤12622780799
 units:0≤r.units∧r.units≤1099511627776
 call:0≤r.call∧r.call≤999999999
 part:0≤r.part∧r.part≤99
 trunk:0≤r.trunk∧r.trunk≤999
theorem errF_good {r:Record} (h:errF r=0):Good r:=by
 unfold errF at h
 split at h; · cases h
 split at h; · cases h
 split at h; · cases h
 split at h; · cases h
 split at h; · cases h
 split at h; · cases h
 split at h; · cases h
 split at h; · cases h
 split at h; · cases h
 split at h; · cases h
 rename_i h1 h2 h3 h4 h5 h6 h7 h8 h9 h10
 refine ⟨by omega,by omega,by omega,?_,?_,by omega,by omega,by omega,by omega,by omega⟩
 ·cases hv:validB r.a with
  | true=>rfl
  | false=>exact absurd (.inl hv) h3
 ·cases hv:validB r.b with
  | true=>exact .inl rfl
  | false =>
   right
   by_cases hh:(r.kind=3∨r.kind=4)∧r.b=[]
   ·exact hh
   ·exact absurd (.inr ⟨hv,hh⟩) h3
theorem validB_len {s:List UInt8} (h:validB s=true):s.length≤15:=by
 unfold validB at h
 simp at h
 exact h.2
def headF (r:Record):List (List UInt8):=[(([118,116,100,99]:List UInt8).take r.kind.toNat).drop (r.kind-1).toNat,Go.Lib.itoa r.source,Go.Lib.itoa r.serial,r.a,if r.b=[] then [45] else r.b,Go.Lib.itoa r.start,Go.Lib.itoa r.units]
def partF (r:Record):List (List UInt8):=if r.part=0 then [] else [[112,97,114,116],Go.Lib.itoa r.call,Go.Lib.itoa r.part]++if r.last=true then [[108,97,115,116]] else []
def trunkF (r:Record):List (List UInt8):=if r.trunk=0 then [] else [if r.inbound=true then [105,110] else [111,117,116],Go.Lib.itoa r.trunk]
def wordsF (r:Record):List (List UInt8):=headF r++partF r++trunkF r
def lineF (r:Record):List UInt8:=Go.Lib.join (wordsF r) [32]
theorem join_len (sep:List UInt8) (xs:List (List UInt8)) (m:Nat) (h:∀ x,x∈xs→x.length≤m):(Go.Lib.join xs sep).length≤xs.length*(m+sep.length):=by
 cases xs with
 | nil=>simp [Go.Lib.join]
 | cons x r =>
  rw [Go.Lib.join_cons]
  have h1:∀ (r:List (List UInt8)),(∀ x,x∈r→x.length≤m)→(Go.Lib.joinTail sep r).length≤r.length*(m+sep.length):=by
   intro r
   induction r with
   | nil=>simp [Go.Lib.joinTail]
   | cons y r ih =>
    intro hr
    have:=ih fun z hz=>hr z (List.mem_cons_of_mem _ hz)
    have h2:=hr y List.mem_cons_self
    simp only [Go.Lib.joinTail,List.map_cons,List.flatten_cons,List.length_append,List.length_cons,Nat.add_mul] at *
    omega
  have h3:=h1 r fun z hz=>h z (List.mem_cons_of_mem _ hz)
  have h4:=h x List.mem_cons_self
  simp only [List.length_append,List.length_cons,Nat.add_mul] at *
  omega
theorem itoa_le {n:Int} (h0:0≤n) (h1:n≤9223372036854775807):(Go.Lib.itoa n).length≤21:=Go.Lib.itoa_length_le n (by omega) h1
theorem words_le {r:Record} (g:Good r):(wordsF r).length≤13∧∀ x,x∈wordsF r→x.length≤21:=by
 have ha:=validB_len g.a
 have hb:r.b.length≤15:=by
  rcases g.b with h | h
  ·exact validB_len h
  ·rw [h.2]; simp
 obtain ⟨gs,ge,gk,_,_,gst,gu,gc,gp,gt⟩:=g
 refine ⟨?_,fun x hx=>?_⟩
 ·have h1:(partF r).length≤4:=by unfold partF; split; simp; split <;> simp
  have h2:(trunkF r).length≤2:=by unfold trunkF; split <;> simp
  have h3:(headF r).length=7:=rfl
  simp only [wordsF,List.length_append]; omega
 ·unfold wordsF at hx
  rcases List.mem_append.1 hx with hx | hx
  ·rcases List.mem_append.1 hx with hx | hx
   ·unfold headF at hx
    simp only [List.mem_cons,List.not_mem_nil,or_false] at hx
    rcases hx with rfl | rfl | rfl | rfl | rfl | rfl | rfl
    ·simp; omega
    ·exact itoa_le (by omega) (by omega)
    ·exact itoa_le (by omega) (by omega)
    ·omega
    ·split
     ·simp
     ·omega
    ·exact itoa_le (by omega) (by omega)
    ·exact itoa_le (by omega) (by omega)
   ·unfold partF at hx
    split at hx
    ·cases hx
    ·rcases List.mem_append.1 hx with hx | hx
     ·simp only [List.mem_cons,List.not_mem_nil,or_false] at hx
      rcases hx with rfl | rfl | rfl
      ·simp
      ·exact itoa_le (by omega) (by omega)
      ·exact itoa_le (by omega) (by omega)
     ·split at hx
      ·simp only [List.mem_cons,List.not_mem_nil,or_false] at hx
       subst hx; simp
      ·cases hx
  ·unfold trunkF at hx
   split at hx
   ·cases hx
   ·simp only [List.mem_cons,List.not_mem_nil,or_false] at hx
    rcases hx with rfl | rfl
    ·split <;> simp
    ·exact itoa_le (by omega) (by omega)
theorem p_Itoa {n:Int} (h0:0≤n) (h1:n≤9223372036854775807):x_Itoa n=some (Go.Lib.itoa n):=by
 unfold x_Itoa; rw [ck_pos (by omega)]
theorem p_Encode_ok (r:Record) (h:errF r=0):f_textual_Encode r=some (lineF r,0):=by
 have g:=errF_good h
 have ha:=validB_len g.a
 have hb:r.b.length≤15:=by
  rcases g.b with h | h
  ·exact validB_len h
  ·rw [h.2]; simp
 have hj3:∀ ws,ws=wordsF r→f_textual_Encode_j3 ws=some (lineF r,0):=by
  rintro ws rfl
  unfold f_textual_Encode_j3 x_Join
  obtain ⟨w1,w2⟩:=words_le g
  have:=join_len [32] (wordsF r) 21 w2
  simp only [List.length_cons,List.length_nil] at this
  have h3:(wordsF r).length*22≤13*22:=Nat.mul_le_mul_right _ w1
  rw [ck_pos ⟨by omega,by omega⟩]
  rfl
 have hj2:∀ ws,ws=headF r++partF r→ws.length≤11→f_textual_Encode_j2 r ws=some (lineF r,0):=by
  intro ws hw hl
  unfold f_textual_Encode_j2
  by_cases ht:r.trunk=0
  ·rw [if_neg (by simp [ht])]
   exact hj3 _ (by rw [hw,wordsF,trunkF,if_pos ht]; simp)
  ·rw [if_pos (by simp [ht])]
   unfold f_textual_Encode_j4
   rw [p_Itoa g.trunk.1 (by have:=g.trunk.2; omega)]
   simp only [Option.bind_some]
   split
   ·rename_i hi
    rw [ck_pos (by simp; omega)]
    exact hj3 _ (by rw [hw,wordsF,trunkF,if_neg ht,if_pos hi])
   ·rename_i hi
    rw [ck_pos (by simp; omega)]
    exact hj3 _ (by rw [hw,wordsF,trunkF,if_neg ht,if_neg hi])
 have hj1:∀ b,b=(if r.b=[] then [45] else r.b)→f_textual_Encode_j1 r b=some (lineF r,0):=by
  rintro b rfl
  unfold f_textual_Encode_j1
  have gk:=g.kind
  rw [ck_pos (by omega),ck_pos (by simp; omega),p_Itoa (by have:=g.source; omega) (by have:=g.source; omega),p_Itoa (by have:=g.serial; omega) (by have:=g.serial; omega),p_Itoa g.start.1 (by have:=g.start; omega),p_Itoa g.units.1 (by have:=g.units; omega)]
  simp only [Option.bind_some]
  by_cases hp:r.part=0
  ·rw [if_neg (by simp [hp])]
   exact hj2 _ (by rw [partF,if_pos hp]; simp [headF]) (by simp)
  ·rw [if_pos (by simp [hp]),p_Itoa g.call.1 (by have:=g.call; omega),p_Itoa g.part.1 (by have:=g.part; omega)]
   simp only [Option.bind_some]
   rw [ck_pos (by simp)]
   split
   ·rename_i hl
    rw [ck_pos (by simp)]
    exact hj2 _ (by rw [partF,if_neg hp,if_pos hl]; simp [headF]) (by simp)
   ·rename_i hl
    exact hj2 _ (by rw [partF,if_neg hp,if_neg hl]; simp [headF]) (by simp)
 unfold f_textual_Encode
 rw [p_check r (by omega) (by omega),h]
 simp only [Option.bind_some]
 rw [if_neg (by simp)]
 split
 ·rename_i hb0
  exact hj1 _ (by rw [if_pos (by simpa using hb0)])
 ·rename_i hb0
  exact hj1 _ (by rw [if_neg (by simpa using hb0)])
theorem p_Encode (r:Record) (ha:r.a.length < 1000000000) (hb:r.b.length < 1000000000):f_textual_Encode r=some (if errF r=0 then lineF r else [],errF r):=by
 by_cases h:errF r=0
 ·rw [p_Encode_ok r h,if_pos h,h]
 ·unfold f_textual_Encode
  rw [p_check r ha hb,if_neg h]
  simp only [Option.bind_some]
  rw [if_pos (by simpa using h)]
end Go.Proofs.YtpnegjippkneoaaGreatDoor
