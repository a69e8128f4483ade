/- Our own texts LW4 LW5 LW6 R1 QA QB QC QD QE QF QG QH QI C1 C2 C3 of this seat in one. -/
import Derived.Test.YtnjdcednocmcnaaDoorYF2
import Derived.Lib.ItoaLen
import Derived.Deep.Slices
import Derived.ChangeArms
import Derived.ProofKit
import Derived.Below
import Derived.ChangeSame
set_option linter.unusedSimpArgs false
set_option linter.unusedVariables false
set_option linter.unusedSectionVars false
set_option maxRecDepth 100000
set_option maxHeartbeats 1000000
namespace Go.Proofs.YtnjdcednocmcnaaDoor
open Go.RowKit Go.Abs Go.Proofs.Tryd
theorem c_g_numbering_owners {v0events:List Event} {v1t:Int} {r:(List ((List UInt8)×Int))} (H:g_numbering_owners v0events v1t=some r):ACallS prog 45 [.d (slOf 7 Event.row v0events),.d (cI v1t)] ⟨[],[]⟩ (QE (.mp 0) ⟨[.map (mEnc (fun s=>Value.string ⟨s.toArray⟩) (fun x=>cI x) r)],[]⟩):=by
 refine ACallS.keep ?_
 refine ACallS.enter func45 rfl ntmps45 rfl fun S hS=>?_
 unfold g_numbering_owners at H
 obtain ⟨y1,hy1,H⟩:=bind_some' H
 refine .A 20 [.v (.mp 0) ⟨[.map (mEnc (fun s=>Value.string ⟨s.toArray⟩) (fun x=>cI x) ([]:List ((List UInt8)×Int)))],[]⟩,.d (.agg (Customers.row y1)),.d (slOf 8 Sub.row y1.subs),.i (y1.subs.length:Int)] rfl ⟨s60.n rfl rfl,OpQ.g (q_field underlying62 rfl one_60 rfl rfl rfl),g_call (en 36 rfl) rfl rfl (c_f_customer_State (hy1)),.e (v_makeMap) rfl⟩ ?_
 obtain ⟨n1,H⟩:=loop_some H
 refine .loop (ι:=Nat×(Int×(List ((List UInt8)×Int)))) (fun ⟨_,v16l1,o0c0l1⟩=>[(5,.mp 0),(14,.d (slOf 8 Sub.row y1.subs)),(15,.d (cI (y1.subs.length:Int))),(16,.d (cI v16l1))]) (fun ⟨_,v16l1,o0c0l1⟩=>⟨[.map (mEnc (fun s=>Value.string ⟨s.toArray⟩) (fun x=>cI x) o0c0l1)],[]⟩) (fun p=>iter (fun s=>g_numbering_owners_l1 y1 s.1 s.2) p.1 p.2=some r) (·.1) (n1,(0,([]:List ((List UInt8)×Int)))) H (.cons rfl (.rfl' _) (.cons rfl (.rfl' _) (.cons rfl (.rfl' _) (.cons rfl (.rfl' _) (.nil))))) rfl ?_
 rintro ⟨m1,v16l1,o0c0l1⟩ HI ih1
 obtain ⟨n1,q1,hm1,H,HK1⟩:=iter_succ HI
 clear HI
 replace H:g_numbering_owners_l1 y1 v16l1 o0c0l1=some q1:=H
 unfold g_numbering_owners_l1 at H
 refine .A 5 [] rfl trivial ?_
 refine .ite H rfl (fun H=>?_) (fun H=>?_)
 ·obtain ⟨hk1,H⟩:=ck_some H
  refine .A 18 [.d (.ro (Sub.row (nth y1.subs v16l1.toNat))),.r 1,.i (((nth y1.subs v16l1.toNat).numbers).length:Int)] rfl ⟨s36.n rfl rfl,s60.ix rfl rfl rfl hk1⟩ ?_
  obtain ⟨n2,H⟩:=loop_some H
  refine .loop (ι:=Nat×(Int×(List ((List UInt8)×Int)))) (fun ⟨_,v23l2,o0c0l2⟩=>[(5,.mp 0),(7,.ref 1 0),(14,.d (slOf 8 Sub.row y1.subs)),(15,.d (cI (y1.subs.length:Int))),(16,.d (cI v16l1)),(21,.d (slOf 1 rS ((nth y1.subs v16l1.toNat).numbers))),(22,.d (cI (((nth y1.subs v16l1.toNat).numbers).length:Int))),(23,.d (cI v23l2))]) (fun ⟨_,v23l2,o0c0l2⟩=>⟨[.map (mEnc (fun s=>Value.string ⟨s.toArray⟩) (fun x=>cI x) o0c0l2),.row 38 [.d (cI ((nth y1.subs v16l1.toNat).id)),.d (cI ((nth y1.subs v16l1.toNat).account)),.d (cI ((nth y1.subs v16l1.toNat).since)),.d (cS ((nth y1.subs v16l1.toNat).plan)),.d (slOf 1 rS ((nth y1.subs v16l1.toNat).numbers)),.d (slOf 1 rS ((nth y1.subs v16l1.toNat).products)),.d (cB ((nth y1.subs v16l1.toNat).suspended)),.d (cB ((nth y1.subs v16l1.toNat).family))]],[]⟩) (fun p=>iter (fun s=>g_numbering_owners_l2 y1 v16l1 s.1 s.2) p.1 p.2=some q1) (·.1) (n2,(0,o0c0l1)) H (.cons rfl (.rfl' _) (.cons rfl (.rfl' _) (.cons rfl (.rfl' _) (.cons rfl (.rfl' _) (.cons rfl (.rfl' _) (.cons rfl (.rfl' _) (.cons rfl (.rfl' _) (.cons rfl (.rfl' _) (.nil))))))))) rfl ?_
  rintro ⟨m2,v23l2,o0c0l2⟩ HI ih2
  obtain ⟨n2,q2,hm2,H,HK2⟩:=iter_succ HI
  clear HI
  replace H:g_numbering_owners_l2 y1 v16l1 v23l2 o0c0l2=some q2:=H
  unfold g_numbering_owners_l2 at H
  refine .A 5 [] rfl trivial ?_
  refine .ite H rfl (fun H=>?_) (fun H=>?_)
  ·obtain ⟨hk2,H⟩:=ck_some H
   obtain ⟨hk3,H⟩:=ck_some H
   refine .A 21 [.d (.ro (rS (nth ((nth y1.subs v16l1.toNat).numbers) v23l2.toNat))),.u ⟨[.map (mEnc (fun s=>Value.string ⟨s.toArray⟩) (fun x=>cI x) (aset o0c0l2 (nth ((nth y1.subs v16l1.toNat).numbers) v23l2.toNat) ((nth y1.subs v16l1.toNat).id))),.row 38 [.d (cI ((nth y1.subs v16l1.toNat).id)),.d (cI ((nth y1.subs v16l1.toNat).account)),.d (cI ((nth y1.subs v16l1.toNat).since)),.d (cS ((nth y1.subs v16l1.toNat).plan)),.d (slOf 1 rS ((nth y1.subs v16l1.toNat).numbers)),.d (slOf 1 rS ((nth y1.subs v16l1.toNat).products)),.d (cB ((nth y1.subs v16l1.toNat).suspended)),.d (cB ((nth y1.subs v16l1.toNat).family))]],[]⟩,.i (v23l2+1)] rfl ⟨g_addI rfl rfl hk3,.e (u_mapUpdateD (strKF underlying9) (l:=o0c0l2) (val:=(fun x=>cI x)) (k:=nth ((nth y1.subs v16l1.toNat).numbers) v23l2.toNat) (a:=(nth y1.subs v16l1.toNat).id) underlying85 rfl rfl rfl (fun _ _ _ h=>exKey h) rfl (.rfl' _)) rfl,s36.ix rfl rfl rfl hk2⟩ ?_
   cases H
   exact .z (ih2 (n2,(v23l2+1,aset o0c0l2 (nth ((nth y1.subs v16l1.toNat).numbers) v23l2.toNat) ((nth y1.subs v16l1.toNat).id))) HK2 hm2) rfl rfl
  ·obtain ⟨hk4,H⟩:=ck_some H
   refine .A 6 [.i (v16l1+1)] rfl (g_addI rfl rfl hk4) ?_
   cases H
   cases HK2
   exact .t 1 0 (ih1 (n1,(v16l1+1,o0c0l2)) HK1 hm1) rfl rfl rfl rfl (okBoth rfl (okCons okMap rfl)) hS rfl
 ·refine .A 6 [] rfl trivial ?_
  refine .R func45 results45 rfl ?_
  cases H
  cases HK1
  exact ⟨[0],[],rfl,(okCons okMap rfl),(by first | rfl | (simp only [List.map_cons,List.map_nil,renMap,renArr,mergeSt]; rfl)),(by first | rfl | (simp only [List.map_cons,List.map_nil,renMap,renArr,mergeSt]; rfl)),(by first | rfl | (simp only [List.map_cons,List.map_nil,renMap,renArr,mergeSt]; rfl)),(by first | rfl | (simp only [List.map_cons,List.map_nil,renMap,renArr,mergeSt]; rfl)),(by first | rfl | (simp only [List.map_cons,List.map_nil,renMap,renArr,mergeSt]; rfl)),(by first | rfl | (simp only [List.map_cons,List.map_nil,renMap,renArr,mergeSt]; rfl)),.rfl' _⟩
theorem c_f_numbering_Owner {v0events:List Event} {v1number:List UInt8} {v2t:Int} {r:Int×Bool} (H:f_numbering_Owner v0events v1number v2t=some r):ACall prog 32 [slOf 7 Event.row v0events,cS v1number,cI v2t] (·=.tup [cI r.1,cB r.2]):=by
 obtain ⟨i3,hi3,hz3,hs3,hb3⟩:=in_3
 refine ACall.enter' func32 rfl ntmps32 rfl fun S hS=>?_
 unfold f_numbering_Owner at H
 obtain ⟨y1,hy1,H⟩:=bind_some' H
 refine .B 9 [] rfl trivial ?_
 refine .callF (en 37 rfl) rfl [] [] (x:=.mp 0) (st':=⟨[.map (mEnc (fun s=>Value.string ⟨s.toArray⟩) (fun x=>cI x) y1)],[]⟩) rfl (c_g_numbering_owners (hy1)) ⟨.rfl' _,.rfl' _,trivial⟩ rfl rfl (by first | rfl | (simp only [List.map_cons,List.map_nil,renMap,renArr,mergeSt]; rfl)) rfl rfl (by first | rfl | (simp only [List.map_cons,List.map_nil,renMap,renArr,mergeSt]; rfl)) ?_
 refine .A 15 [.d (.tup [cI ((alook y1 v1number).getD 0),cB ((alook y1 v1number).isSome)])] rfl (OpQ.g (q_lookupOkD (strKF underlying9) (l:=y1) (val:=(fun x=>cI x)) (k:=v1number) (a0:=0) underlying85 hi3 hz3 (show DLe (cI 0) (cI 0) from .rfl' _) rfl rfl rfl (fun _ _ _ h=>exKey h))) ?_
 refine .R func32 results32 rfl ?_
 cases H
 exact .m rfl (.tupD rfl)
theorem c_f_customer_Sub {v0events:List Event} {v1id:Int} {v2t:Int} {r:Sub×Bool} (H:f_customer_Sub v0events v1id v2t=some r):ACall prog 34 [slOf 7 Event.row v0events,cI v1id,cI v2t] (·=.tup [.agg (Sub.row r.1),cB r.2]):=by
 obtain ⟨i38,hi38,hz38,hs38,hb38⟩:=in_38
 refine ACall.enter' func34 rfl ntmps34 rfl fun S hS=>?_
 unfold f_customer_Sub at H
 obtain ⟨y1,hy1,H⟩:=bind_some' H
 refine .A 16 [.r 0,.d (.agg (Customers.row y1)),.d (slOf 8 Sub.row y1.subs),.i (y1.subs.length:Int)] rfl ⟨s60.n rfl rfl,OpQ.g (q_field underlying62 rfl one_60 rfl rfl rfl),g_call (en 36 rfl) rfl rfl (c_f_customer_State (hy1))⟩ ?_
 obtain ⟨n1,H⟩:=loop_some H
 refine .loop (ι:=Nat×(Int)) (fun ⟨_,v15l1⟩=>[(1,.d (cI v1id)),(6,.ref 0 0),(13,.d (slOf 8 Sub.row y1.subs)),(14,.d (cI (y1.subs.length:Int))),(15,.d (cI v15l1))]) (fun ⟨_,v15l1⟩=>⟨[.row 38 [.d (cI 0),.d (cI 0),.d (cI 0),.d (cS ([]:List UInt8)),.d (nilD),.d (nilD),.d (cB false),.d (cB false)]],[]⟩) (fun p=>iter (fun s=>f_customer_Sub_l1 v1id y1 s) p.1 p.2=some r) (·.1) (n1,0) H (.cons rfl (.rfl' _) (.cons rfl (.rfl' _) (.cons rfl (.rfl' _) (.cons rfl (.rfl' _) (.cons rfl (.rfl' _) (.nil)))))) rfl ?_
 rintro ⟨m1,v15l1⟩ HI ih1
 obtain ⟨n1,q1,hm1,H,HK1⟩:=iter_succ HI
 clear HI
 replace H:f_customer_Sub_l1 v1id y1 v15l1=some q1:=H
 unfold f_customer_Sub_l1 at H
 refine .A 5 [] rfl trivial ?_
 refine .ite H rfl (fun H=>?_) (fun H=>?_)
 ·obtain ⟨hk1,H⟩:=ck_some H
  refine .A 17 [.d (.ro (Sub.row (nth y1.subs v15l1.toNat))),.r 1] rfl (s60.ix rfl rfl rfl hk1) ?_
  refine .ite H rfl (fun H=>?_) (fun H=>?_)
  ·refine .A 6 [] rfl trivial ?_
   refine .R func34 results34 rfl ?_
   cases H
   cases HK1
   exact .m rfl (.tupD rfl)
  ·obtain ⟨hk2,H⟩:=ck_some H
   refine .A 6 [.i (v15l1+1)] rfl (g_addI rfl rfl hk2) ?_
   cases H
   exact .t 1 0 (ih1 (n1,(v15l1+1)) HK1 hm1) rfl rfl rfl rfl rfl hS rfl
 ·refine .A 7 [.d (.agg (Sub.row (⟨0,0,0,([]:List UInt8),([]:List (List UInt8)),([]:List (List UInt8)),false,false⟩:Sub)))] rfl (OpQ.g (OpQ.le (q_buildP pl_38 hi38 hz38 rfl rfl) (EVle.d (.agg ⟨.rfl' _,.rfl' _,.rfl' _,.rfl' _,.nil 1,.nil 1,.rfl' _,.rfl' _,trivial⟩)))) ?_
  refine .R func34 results34 rfl ?_
  cases H
  cases HK1
  exact .m rfl (.tupD rfl)
theorem c_f_enrich_work_owner {v0w:EnrichWork} {r:Sub×Bool} (H:f_enrich_work_owner v0w=some r):ACall prog 21 [.agg (EnrichWork.row v0w)] (·=.tup [.agg (Sub.row r.1),cB r.2]):=by
 obtain ⟨i38,hi38,hz38,hs38,hb38⟩:=in_38
 refine ACall.enter' func21 rfl ntmps21 rfl fun S hS=>?_
 unfold f_enrich_work_owner at H
 obtain ⟨y1,hy1,H⟩:=bind_some' H
 obtain ⟨y2,hy2,H⟩:=bind_some' H
 refine .A 31 [.r 0,.r 1,.p 15,.s y1,.d (.tup [cI y2.1,cB y2.2])] rfl ⟨g_call (en 38 rfl) rfl rfl (c_f_numbering_Owner (hy2)),g_call (en 39 rfl) rfl rfl (c_f_enrich_source_number (hy1)),(show drawB _ _=true by kernel_rfl)⟩ ?_
 refine .ite H rfl (fun H=>?_) (fun H=>?_)
 ·refine .A 6 [.d (.agg (Sub.row (⟨0,0,0,([]:List UInt8),([]:List (List UInt8)),([]:List (List UInt8)),false,false⟩:Sub)))] rfl (OpQ.g (OpQ.le (q_buildP pl_38 hi38 hz38 rfl rfl) (EVle.d (.agg ⟨.rfl' _,.rfl' _,.rfl' _,.rfl' _,.nil 1,.nil 1,.rfl' _,.rfl' _,trivial⟩)))) ?_
  refine .R func21 results21 rfl ?_
  cases H
  exact .m rfl (.tupD rfl)
 ·obtain ⟨y3,hy3,H⟩:=bind_some' H
  refine .A 16 [.d (.tup [.agg (Sub.row y3.1),cB y3.2])] rfl (g_call (en 40 rfl) rfl rfl (c_f_customer_Sub (hy3))) ?_
  refine .R func21 results21 rfl ?_
  cases H
  exact .m rfl (.tupD rfl)
theorem c_f_enrich_source_usage {v0s:EnrichSource} {v1id:Int} {v2sub:Sub} {r:Usage} (H:f_enrich_source_usage v0s v1id v2sub=some r):ACall prog 22 [.agg (EnrichSource.row v0s),cI v1id,.agg (Sub.row v2sub)] (·=.agg (Usage.row r)):=by
 obtain ⟨i29,hi29,hz29,hs29,hb29⟩:=in_29
 refine ACall.enter' func22 rfl ntmps22 rfl fun S hS=>?_
 unfold f_enrich_source_usage at H
 refine .A 43 [.r 0,.r 1,.r 2,.d (.agg (Usage.row (⟨v1id,v0s.record.kind,v2sub.account,v2sub.id,v0s.record.a,v0s.record.b,v0s.record.start,v0s.record.units,v0s.record.trunk,v0s.record.inbound,v0s.record.source,v0s.record.serial⟩:Usage)))] rfl (OpQ.g (q_buildP pl_29 hi29 hz29 rfl (by kernel_rfl))) ?_
 refine .R func22 results22 rfl ?_
 cases H
 exact .m rfl (.rfl' _)
theorem c_f_enrich_Usage {v0events:List Event} {v1r:Record} {v2id:Int} {r:Usage×Int} (H:f_enrich_Usage v0events v1r v2id=some r):ACall prog 11 [slOf 7 Event.row v0events,.agg (Record.row v1r),cI v2id] (·=.tup [.agg (Usage.row r.1),cI r.2]):=by
 obtain ⟨i29,hi29,hz29,hs29,hb29⟩:=in_29
 obtain ⟨i54,hi54,hz54,hs54,hb54⟩:=in_54
 obtain ⟨i56,hi56,hz56,hs56,hb56⟩:=in_56
 refine ACall.enter' func11 rfl ntmps11 rfl fun S hS=>?_
 unfold f_enrich_Usage at H
 obtain ⟨y1,hy1,H⟩:=bind_some' H
 refine .A 18 [.r 0,.r 1,.i y1] rfl (g_call (en 41 rfl) rfl rfl (c_f_validate_Check (hy1))) ?_
 refine .ite H rfl (fun H=>?_) (fun H=>?_)
 ·refine .A 7 [.d (.agg (Usage.row (⟨0,0,0,0,([]:List UInt8),([]:List UInt8),0,0,0,false,0,0⟩:Usage)))] rfl (OpQ.g (q_buildP pl_29 hi29 hz29 rfl rfl)) ?_
  refine .R func11 results11 rfl ?_
  cases H
  exact .m rfl (.tupD rfl)
 ·refine .A 8 [] rfl trivial ?_
  refine .ite H rfl (fun H=>?_) (fun H=>?_)
  ·refine .A 6 [.d (.agg (Usage.row (⟨0,0,0,0,([]:List UInt8),([]:List UInt8),0,0,0,false,0,0⟩:Usage)))] rfl (OpQ.g (q_buildP pl_29 hi29 hz29 rfl rfl)) ?_
   refine .R func11 results11 rfl ?_
   cases H
   exact .m rfl (.tupD rfl)
  ·obtain ⟨y2,hy2,H⟩:=bind_some' H
   refine .A 27 [.d (.agg (EnrichSource.row (⟨v1r⟩:EnrichSource))),.d (.agg (EnrichWork.row (⟨(⟨v1r⟩:EnrichSource),v0events⟩:EnrichWork))),.r 2,.d (.tup [.agg (Sub.row y2.1),cB y2.2]),.r 3] rfl ⟨g_call (en 42 rfl) rfl rfl (c_f_enrich_work_owner (hy2)),OpQ.g (q_buildP pl_56 hi56 hz56 rfl rfl),OpQ.g (q_buildP pl_54 hi54 hz54 rfl rfl)⟩ ?_
   refine .ite H rfl (fun H=>?_) (fun H=>?_)
   ·refine .A 6 [.d (.agg (Usage.row (⟨0,0,0,0,([]:List UInt8),([]:List UInt8),0,0,0,false,0,0⟩:Usage)))] rfl (OpQ.g (q_buildP pl_29 hi29 hz29 rfl rfl)) ?_
    refine .R func11 results11 rfl ?_
    cases H
    exact .m rfl (.tupD rfl)
   ·refine .A 12 [] rfl ⟨rfl,rfl,rfl⟩ ?_
    refine .ite H rfl (fun H=>?_) (fun H=>?_)
    ·refine .A 6 [.d (.agg (Usage.row (⟨0,0,0,0,([]:List UInt8),([]:List UInt8),0,0,0,false,0,0⟩:Usage)))] rfl (OpQ.g (q_buildP pl_29 hi29 hz29 rfl rfl)) ?_
     refine .R func11 results11 rfl ?_
     cases H
     exact .m rfl (.tupD rfl)
    ·obtain ⟨y3,hy3,H⟩:=bind_some' H
     refine .A 11 [.d (.agg (Usage.row y3))] rfl (g_call (en 43 rfl) rfl rfl (c_f_enrich_source_usage (hy3))) ?_
     refine .R func11 results11 rfl ?_
     cases H
     exact .m rfl (.tupD rfl)
theorem c_f_enrich_Retail {v0u:Usage} {r:Bool} (H:f_enrich_Retail v0u=some r):ACall prog 17 [.agg (Usage.row v0u)] (·=cB r):=by
 refine ACall.enter' func17 rfl ntmps17 rfl fun S hS=>?_
 unfold f_enrich_Retail at H
 refine .A 12 [.r 0] rfl trivial ?_
 refine .R func17 results17 rfl ?_
 cases H
 exact .m rfl (.rfl' _)
theorem c_f_w21_awake {r:Bool} (H:f_w21_awake=some r):ACall prog 10 [] (·=cB r):=by
 obtain ⟨i24,hi24,hz24,hs24,hb24⟩:=in_24
 refine ACall.enter' func10 rfl ntmps10 rfl fun S hS=>?_
 unfold f_w21_awake at H
 refine .A 11 [.d (.agg (Record.row (⟨1,1,1,([52,57,49,53]:List UInt8),([51,51]:List UInt8),100,5,0,0,false,0,false⟩:Record))),.r 0] rfl (OpQ.g (q_buildP pl_24 hi24 hz24 rfl rfl)) ?_
 refine .copiesL 2 12 24 [14,15] [2,3] [(Record.row (⟨1,1,1,([52,57,49,53]:List UInt8),([51,51]:List UInt8),100,5,0,0,false,0,false⟩:Record)),(Record.row (⟨1,1,1,([52,57,49,53]:List UInt8),([51,51]:List UInt8),100,5,0,0,false,0,false⟩:Record))] hMix (by kernel_rfl) rfl
  (fun k hk=>match k,hk with | 0,_=>⟨_,rfl,rfl,rfl,q_loadOA one_24 sz_24 rfl rfl (Nat.le_of_ble_eq_true rfl) rfl⟩ | 1,_=>⟨_,rfl,rfl,rfl,q_loadOA one_24 sz_24 rfl rfl (Nat.le_of_ble_eq_true rfl) rfl⟩ | k+2,hk=>absurd hk (by omega))
  (fun k hk=>match k,hk with | 0,_=>⟨_,_,_,rfl⟩ | 1,_=>⟨_,_,_,rfl⟩ | k+2,hk=>absurd hk (by omega))
  (fun k hk=>match k,hk with | 0,_=>⟨_,_,_,rfl,⟨_,Array.mem_of_getElem? (i:=1) rfl,rfl,rfl⟩,⟨_,Array.mem_of_getElem? (i:=0) rfl,rfl,rfl⟩⟩ | 1,_=>⟨_,_,_,rfl,⟨_,Array.mem_of_getElem? (i:=1) rfl,rfl,rfl⟩,⟨_,Array.mem_of_getElem? (i:=0) rfl,rfl,rfl⟩⟩ | k+2,hk=>absurd hk (by omega))
  rfl rfl rfl zr_24 rfl sz_24 ?_
 refine .A 17 [.d (.agg (Record.row (⟨1,2,1,([51,51]:List UInt8),([52,57,49,53]:List UInt8),200,5,0,0,false,5,true⟩:Record))),.r 3] rfl (OpQ.g (q_buildP pl_24 hi24 hz24 rfl (by kernel_rfl))) ?_
 obtain ⟨y1,hy1,H⟩:=bind_some' H
 obtain ⟨y2,hy2,H⟩:=bind_some' H
 refine .orders2 8 6 7 [⟨[.row 24 [.d (cI 1),.d (cI 1),.d (cI 1),.d (cS ([52,57,49,53]:List UInt8)),.d (cS ([51,51]:List UInt8)),.d (cI 100),.d (cI 5),.d (cI 0),.d (cI 0),.d (cB false),.d (cI 0),.d (cB false)],.row 24 [.d (cI 1),.d (cI 1),.d (cI 1),.d (cS ([52,57,49,53]:List UInt8)),.d (cS ([51,51]:List UInt8)),.d (cI 99),.d (cI 5),.d (cI 0),.d (cI 0),.d (cB false),.d (cI 0),.d (cB false)],.row 24 [.d (cI 1),.d (cI 1),.d (cI 1),.d (cS ([52,57,49,53]:List UInt8)),.d (cS ([51,51]:List UInt8)),.d (cI 200),.d (cI 5),.d (cI 0),.d (cI 0),.d (cB false),.d (cI 0),.d (cB false)],.row 24 [.d (cI 1),.d (cI 2),.d (cI 1),.d (cS ([51,51]:List UInt8)),.d (cS ([52,57,49,53]:List UInt8)),.d (cI 200),.d (cI 5),.d (cI 0),.d (cI 0),.d (cB false),.d (cI 5),.d (cB true)]],[]⟩,⟨[.row 24 [.d (cI 1),.d (cI 1),.d (cI 1),.d (cS ([52,57,49,53]:List UInt8)),.d (cS ([51,51]:List UInt8)),.d (cI 100),.d (cI 5),.d (cI 0),.d (cI 0),.d (cB false),.d (cI 0),.d (cB false)],.row 24 [.d (cI 1),.d (cI 1),.d (cI 1),.d (cS ([52,57,49,53]:List UInt8)),.d (cS ([51,51]:List UInt8)),.d (cI 99),.d (cI 5),.d (cI 0),.d (cI 0),.d (cB false),.d (cI 0),.d (cB false)],.row 24 [.d (cI 1),.d (cI 1),.d (cI 1),.d (cS ([52,57,49,53]:List UInt8)),.d (cS ([51,51]:List UInt8)),.d (cI 200),.d (cI 5),.d (cI 0),.d (cI 0),.d (cB false),.d (cI 0),.d (cB false)],.row 24 [.d (cI 1),.d (cI 2),.d (cI 1),.d (cS ([51,51]:List UInt8)),.d (cS ([52,57,49,53]:List UInt8)),.d (cI 200),.d (cI 5),.d (cI 0),.d (cI 0),.d (cB false),.d (cI 5),.d (cB true)],.row 29 [.d (cI 0),.d (cI 0),.d (cI 0),.d (cI 0),.d (cS ([]:List UInt8)),.d (cS ([]:List UInt8)),.d (cI 0),.d (cI 0),.d (cI 0),.d (cB false),.d (cI 0),.d (cI 0)]],[]⟩,⟨[.row 24 [.d (cI 1),.d (cI 1),.d (cI 1),.d (cS ([52,57,49,53]:List UInt8)),.d (cS ([51,51]:List UInt8)),.d (cI 100),.d (cI 5),.d (cI 0),.d (cI 0),.d (cB false),.d (cI 0),.d (cB false)],.row 24 [.d (cI 1),.d (cI 1),.d (cI 1),.d (cS ([52,57,49,53]:List UInt8)),.d (cS ([51,51]:List UInt8)),.d (cI 99),.d (cI 5),.d (cI 0),.d (cI 0),.d (cB false),.d (cI 0),.d (cB false)],.row 24 [.d (cI 1),.d (cI 1),.d (cI 1),.d (cS ([52,57,49,53]:List UInt8)),.d (cS ([51,51]:List UInt8)),.d (cI 200),.d (cI 5),.d (cI 0),.d (cI 0),.d (cB false),.d (cI 0),.d (cB false)],.row 24 [.d (cI 1),.d (cI 2),.d (cI 1),.d (cS ([51,51]:List UInt8)),.d (cS ([52,57,49,53]:List UInt8)),.d (cI 200),.d (cI 5),.d (cI 0),.d (cI 0),.d (cB false),.d (cI 5),.d (cB true)],.row 29 [.d (cI y2.1.id),.d (cI y2.1.kind),.d (cI y2.1.account),.d (cI y2.1.sub),.d (cS y2.1.a),.d (cS y2.1.b),.d (cI y2.1.start),.d (cI y2.1.units),.d (cI y2.1.trunk),.d (cB y2.1.inbound),.d (cI y2.1.source),.d (cI y2.1.serial)]],[]⟩] hMix (by kernel_rfl) (by decide) (by decide) (by kernel_rfl) rfl ?_
 show XOps _ _ _ _ _ _ _ _ _ _ (_ :: _) _ _
 refine .g (x:=.d (slOf 7 Event.row y1)) 0 1 ⟨(g_call (en 44 rfl) rfl rfl (c_f_w21_opened (hy1))),(g_call (en 44 rfl) rfl rfl (c_f_w21_opened (hy1))),trivial⟩ rfl (by kernel_rfl) rfl ?_
 refine .g (x:=.d (.agg (Record.row (⟨1,1,1,([52,57,49,53]:List UInt8),([51,51]:List UInt8),100,5,0,0,false,0,false⟩:Record)))) 0 1 ⟨OpQ.g (q_loadOA one_24 sz_24 rfl rfl (Nat.le_of_ble_eq_true rfl) rfl),OpQ.g (q_loadOA one_24 sz_24 rfl rfl (Nat.le_of_ble_eq_true rfl) rfl),trivial⟩ rfl (by kernel_rfl) rfl ?_
 refine .g (x:=.d (.tup [.agg (Usage.row y2.1),cI y2.2])) 0 1 ⟨(g_call (en 45 rfl) rfl rfl (c_f_enrich_Usage (hy2))),(g_call (en 45 rfl) rfl rfl (c_f_enrich_Usage (hy2))),trivial⟩ rfl (by kernel_rfl) rfl ?_
 refine .g (x:=.d (.tup [.agg (Usage.row y2.1),cI y2.2])) 0 1 ⟨OpQ.g (q_move rfl),OpQ.g (q_move rfl),trivial⟩ rfl (by kernel_rfl) rfl ?_
 refine .g (x:=.d (.agg (Usage.row y2.1))) 0 1 ⟨OpQ.g (q_extract rfl rfl),OpQ.g (q_extract rfl rfl),trivial⟩ rfl (by kernel_rfl) rfl ?_
 refine .g (x:=.d (cI y2.2)) 0 2 ⟨OpQ.g (q_extract rfl rfl),OpQ.g (q_extract rfl rfl),OpQ.g (q_extract rfl rfl),trivial⟩ rfl (by kernel_rfl) rfl ?_
 refine .v (x:=.ref 4 0) 0 (v_alloc zr_29 rfl) rfl rfl rfl rfl ?_
 refine .u 1 (u_store rfl rfl rfl rfl (Nat.le_of_ble_eq_true rfl) sz_29) rfl rfl rfl rfl ?_
 refine .nil rfl ?_
 show AOps _ _ _ _ _ _ (_ :: _) _ _ _
 refine .A 3 [] rfl trivial ?_
 obtain ⟨y3,hy3,H⟩:=bind_some' H
 obtain ⟨y4,hy4,H⟩:=bind_some' H
 refine .orders2 8 6 7 [⟨[.row 24 [.d (cI 1),.d (cI 1),.d (cI 1),.d (cS ([52,57,49,53]:List UInt8)),.d (cS ([51,51]:List UInt8)),.d (cI 100),.d (cI 5),.d (cI 0),.d (cI 0),.d (cB false),.d (cI 0),.d (cB false)],.row 24 [.d (cI 1),.d (cI 1),.d (cI 1),.d (cS ([52,57,49,53]:List UInt8)),.d (cS ([51,51]:List UInt8)),.d (cI 99),.d (cI 5),.d (cI 0),.d (cI 0),.d (cB false),.d (cI 0),.d (cB false)],.row 24 [.d (cI 1),.d (cI 1),.d (cI 1),.d (cS ([52,57,49,53]:List UInt8)),.d (cS ([51,51]:List UInt8)),.d (cI 200),.d (cI 5),.d (cI 0),.d (cI 0),.d (cB false),.d (cI 0),.d (cB false)],.row 24 [.d (cI 1),.d (cI 2),.d (cI 1),.d (cS ([51,51]:List UInt8)),.d (cS ([52,57,49,53]:List UInt8)),.d (cI 200),.d (cI 5),.d (cI 0),.d (cI 0),.d (cB false),.d (cI 5),.d (cB true)],.row 29 [.d (cI y2.1.id),.d (cI y2.1.kind),.d (cI y2.1.account),.d (cI y2.1.sub),.d (cS y2.1.a),.d (cS y2.1.b),.d (cI y2.1.start),.d (cI y2.1.units),.d (cI y2.1.trunk),.d (cB y2.1.inbound),.d (cI y2.1.source),.d (cI y2.1.serial)]],[]⟩,⟨[.row 24 [.d (cI 1),.d (cI 1),.d (cI 1),.d (cS ([52,57,49,53]:List UInt8)),.d (cS ([51,51]:List UInt8)),.d (cI 100),.d (cI 5),.d (cI 0),.d (cI 0),.d (cB false),.d (cI 0),.d (cB false)],.row 24 [.d (cI 1),.d (cI 1),.d (cI 1),.d (cS ([52,57,49,53]:List UInt8)),.d (cS ([51,51]:List UInt8)),.d (cI 99),.d (cI 5),.d (cI 0),.d (cI 0),.d (cB false),.d (cI 0),.d (cB false)],.row 24 [.d (cI 1),.d (cI 1),.d (cI 1),.d (cS ([52,57,49,53]:List UInt8)),.d (cS ([51,51]:List UInt8)),.d (cI 200),.d (cI 5),.d (cI 0),.d (cI 0),.d (cB false),.d (cI 0),.d (cB false)],.row 24 [.d (cI 1),.d (cI 2),.d (cI 1),.d (cS ([51,51]:List UInt8)),.d (cS ([52,57,49,53]:List UInt8)),.d (cI 200),.d (cI 5),.d (cI 0),.d (cI 0),.d (cB false),.d (cI 5),.d (cB true)],.row 29 [.d (cI y2.1.id),.d (cI y2.1.kind),.d (cI y2.1.account),.d (cI y2.1.sub),.d (cS y2.1.a),.d (cS y2.1.b),.d (cI y2.1.start),.d (cI y2.1.units),.d (cI y2.1.trunk),.d (cB y2.1.inbound),.d (cI y2.1.source),.d (cI y2.1.serial)],.row 29 [.d (cI 0),.d (cI 0),.d (cI 0),.d (cI 0),.d (cS ([]:List UInt8)),.d (cS ([]:List UInt8)),.d (cI 0),.d (cI 0),.d (cI 0),.d (cB false),.d (cI 0),.d (cI 0)]],[]⟩,⟨[.row 24 [.d (cI 1),.d (cI 1),.d (cI 1),.d (cS ([52,57,49,53]:List UInt8)),.d (cS ([51,51]:List UInt8)),.d (cI 100),.d (cI 5),.d (cI 0),.d (cI 0),.d (cB false),.d (cI 0),.d (cB false)],.row 24 [.d (cI 1),.d (cI 1),.d (cI 1),.d (cS ([52,57,49,53]:List UInt8)),.d (cS ([51,51]:List UInt8)),.d (cI 99),.d (cI 5),.d (cI 0),.d (cI 0),.d (cB false),.d (cI 0),.d (cB false)],.row 24 [.d (cI 1),.d (cI 1),.d (cI 1),.d (cS ([52,57,49,53]:List UInt8)),.d (cS ([51,51]:List UInt8)),.d (cI 200),.d (cI 5),.d (cI 0),.d (cI 0),.d (cB false),.d (cI 0),.d (cB false)],.row 24 [.d (cI 1),.d (cI 2),.d (cI 1),.d (cS ([51,51]:List UInt8)),.d (cS ([52,57,49,53]:List UInt8)),.d (cI 200),.d (cI 5),.d (cI 0),.d (cI 0),.d (cB false),.d (cI 5),.d (cB true)],.row 29 [.d (cI y2.1.id),.d (cI y2.1.kind),.d (cI y2.1.account),.d (cI y2.1.sub),.d (cS y2.1.a),.d (cS y2.1.b),.d (cI y2.1.start),.d (cI y2.1.units),.d (cI y2.1.trunk),.d (cB y2.1.inbound),.d (cI y2.1.source),.d (cI y2.1.serial)],.row 29 [.d (cI y4.1.id),.d (cI y4.1.kind),.d (cI y4.1.account),.d (cI y4.1.sub),.d (cS y4.1.a),.d (cS y4.1.b),.d (cI y4.1.start),.d (cI y4.1.units),.d (cI y4.1.trunk),.d (cB y4.1.inbound),.d (cI y4.1.source),.d (cI y4.1.serial)]],[]⟩] hMix (by kernel_rfl) (by decide) (by decide) (by kernel_rfl) rfl ?_
 show XOps _ _ _ _ _ _ _ _ _ _ (_ :: _) _ _
 refine .g (x:=.d (slOf 7 Event.row y3)) 0 1 ⟨(g_call (en 44 rfl) rfl rfl (c_f_w21_opened (hy3))),(g_call (en 44 rfl) rfl rfl (c_f_w21_opened (hy3))),trivial⟩ rfl (by kernel_rfl) rfl ?_
 refine .g (x:=.d (.agg (Record.row (⟨1,1,1,([52,57,49,53]:List UInt8),([51,51]:List UInt8),99,5,0,0,false,0,false⟩:Record)))) 0 1 ⟨OpQ.g (q_loadOA one_24 sz_24 rfl rfl (Nat.le_of_ble_eq_true rfl) rfl),OpQ.g (q_loadOA one_24 sz_24 rfl rfl (Nat.le_of_ble_eq_true rfl) rfl),trivial⟩ rfl (by kernel_rfl) rfl ?_
 refine .g (x:=.d (.tup [.agg (Usage.row y4.1),cI y4.2])) 0 1 ⟨(g_call (en 45 rfl) rfl rfl (c_f_enrich_Usage (hy4))),(g_call (en 45 rfl) rfl rfl (c_f_enrich_Usage (hy4))),trivial⟩ rfl (by kernel_rfl) rfl ?_
 refine .g (x:=.d (.tup [.agg (Usage.row y4.1),cI y4.2])) 0 1 ⟨OpQ.g (q_move rfl),OpQ.g (q_move rfl),trivial⟩ rfl (by kernel_rfl) rfl ?_
 refine .g (x:=.d (.agg (Usage.row y4.1))) 0 1 ⟨OpQ.g (q_extract rfl rfl),OpQ.g (q_extract rfl rfl),trivial⟩ rfl (by kernel_rfl) rfl ?_
 refine .g (x:=.d (cI y4.2)) 0 2 ⟨OpQ.g (q_extract rfl rfl),OpQ.g (q_extract rfl rfl),OpQ.g (q_extract rfl rfl),trivial⟩ rfl (by kernel_rfl) rfl ?_
 refine .v (x:=.ref 5 0) 0 (v_alloc zr_29 rfl) rfl rfl rfl rfl ?_
 refine .u 1 (u_store rfl rfl rfl rfl (Nat.le_of_ble_eq_true rfl) sz_29) rfl rfl rfl rfl ?_
 refine .nil rfl ?_
 show AOps _ _ _ _ _ _ (_ :: _) _ _ _
 refine .A 3 [] rfl trivial ?_
 obtain ⟨y5,hy5,H⟩:=bind_some' H
 obtain ⟨y6,hy6,H⟩:=bind_some' H
 refine .orders2 8 6 7 [⟨[.row 24 [.d (cI 1),.d (cI 1),.d (cI 1),.d (cS ([52,57,49,53]:List UInt8)),.d (cS ([51,51]:List UInt8)),.d (cI 100),.d (cI 5),.d (cI 0),.d (cI 0),.d (cB false),.d (cI 0),.d (cB false)],.row 24 [.d (cI 1),.d (cI 1),.d (cI 1),.d (cS ([52,57,49,53]:List UInt8)),.d (cS ([51,51]:List UInt8)),.d (cI 99),.d (cI 5),.d (cI 0),.d (cI 0),.d (cB false),.d (cI 0),.d (cB false)],.row 24 [.d (cI 1),.d (cI 1),.d (cI 1),.d (cS ([52,57,49,53]:List UInt8)),.d (cS ([51,51]:List UInt8)),.d (cI 200),.d (cI 5),.d (cI 0),.d (cI 0),.d (cB false),.d (cI 0),.d (cB false)],.row 24 [.d (cI 1),.d (cI 2),.d (cI 1),.d (cS ([51,51]:List UInt8)),.d (cS ([52,57,49,53]:List UInt8)),.d (cI 200),.d (cI 5),.d (cI 0),.d (cI 0),.d (cB false),.d (cI 5),.d (cB true)],.row 29 [.d (cI y2.1.id),.d (cI y2.1.kind),.d (cI y2.1.account),.d (cI y2.1.sub),.d (cS y2.1.a),.d (cS y2.1.b),.d (cI y2.1.start),.d (cI y2.1.units),.d (cI y2.1.trunk),.d (cB y2.1.inbound),.d (cI y2.1.source),.d (cI y2.1.serial)],.row 29 [.d (cI y4.1.id),.d (cI y4.1.kind),.d (cI y4.1.account),.d (cI y4.1.sub),.d (cS y4.1.a),.d (cS y4.1.b),.d (cI y4.1.start),.d (cI y4.1.units),.d (cI y4.1.trunk),.d (cB y4.1.inbound),.d (cI y4.1.source),.d (cI y4.1.serial)]],[]⟩,⟨[.row 24 [.d (cI 1),.d (cI 1),.d (cI 1),.d (cS ([52,57,49,53]:List UInt8)),.d (cS ([51,51]:List UInt8)),.d (cI 100),.d (cI 5),.d (cI 0),.d (cI 0),.d (cB false),.d (cI 0),.d (cB false)],.row 24 [.d (cI 1),.d (cI 1),.d (cI 1),.d (cS ([52,57,49,53]:List UInt8)),.d (cS ([51,51]:List UInt8)),.d (cI 99),.d (cI 5),.d (cI 0),.d (cI 0),.d (cB false),.d (cI 0),.d (cB false)],.row 24 [.d (cI 1),.d (cI 1),.d (cI 1),.d (cS ([52,57,49,53]:List UInt8)),.d (cS ([51,51]:List UInt8)),.d (cI 200),.d (cI 5),.d (cI 0),.d (cI 0),.d (cB false),.d (cI 0),.d (cB false)],.row 24 [.d (cI 1),.d (cI 2),.d (cI 1),.d (cS ([51,51]:List UInt8)),.d (cS ([52,57,49,53]:List UInt8)),.d (cI 200),.d (cI 5),.d (cI 0),.d (cI 0),.d (cB false),.d (cI 5),.d (cB true)],.row 29 [.d (cI y2.1.id),.d (cI y2.1.kind),.d (cI y2.1.account),.d (cI y2.1.sub),.d (cS y2.1.a),.d (cS y2.1.b),.d (cI y2.1.start),.d (cI y2.1.units),.d (cI y2.1.trunk),.d (cB y2.1.inbound),.d (cI y2.1.source),.d (cI y2.1.serial)],.row 29 [.d (cI y4.1.id),.d (cI y4.1.kind),.d (cI y4.1.account),.d (cI y4.1.sub),.d (cS y4.1.a),.d (cS y4.1.b),.d (cI y4.1.start),.d (cI y4.1.units),.d (cI y4.1.trunk),.d (cB y4.1.inbound),.d (cI y4.1.source),.d (cI y4.1.serial)],.row 29 [.d (cI 0),.d (cI 0),.d (cI 0),.d (cI 0),.d (cS ([]:List UInt8)),.d (cS ([]:List UInt8)),.d (cI 0),.d (cI 0),.d (cI 0),.d (cB false),.d (cI 0),.d (cI 0)]],[]⟩,⟨[.row 24 [.d (cI 1),.d (cI 1),.d (cI 1),.d (cS ([52,57,49,53]:List UInt8)),.d (cS ([51,51]:List UInt8)),.d (cI 100),.d (cI 5),.d (cI 0),.d (cI 0),.d (cB false),.d (cI 0),.d (cB false)],.row 24 [.d (cI 1),.d (cI 1),.d (cI 1),.d (cS ([52,57,49,53]:List UInt8)),.d (cS ([51,51]:List UInt8)),.d (cI 99),.d (cI 5),.d (cI 0),.d (cI 0),.d (cB false),.d (cI 0),.d (cB false)],.row 24 [.d (cI 1),.d (cI 1),.d (cI 1),.d (cS ([52,57,49,53]:List UInt8)),.d (cS ([51,51]:List UInt8)),.d (cI 200),.d (cI 5),.d (cI 0),.d (cI 0),.d (cB false),.d (cI 0),.d (cB false)],.row 24 [.d (cI 1),.d (cI 2),.d (cI 1),.d (cS ([51,51]:List UInt8)),.d (cS ([52,57,49,53]:List UInt8)),.d (cI 200),.d (cI 5),.d (cI 0),.d (cI 0),.d (cB false),.d (cI 5),.d (cB true)],.row 29 [.d (cI y2.1.id),.d (cI y2.1.kind),.d (cI y2.1.account),.d (cI y2.1.sub),.d (cS y2.1.a),.d (cS y2.1.b),.d (cI y2.1.start),.d (cI y2.1.units),.d (cI y2.1.trunk),.d (cB y2.1.inbound),.d (cI y2.1.source),.d (cI y2.1.serial)],.row 29 [.d (cI y4.1.id),.d (cI y4.1.kind),.d (cI y4.1.account),.d (cI y4.1.sub),.d (cS y4.1.a),.d (cS y4.1.b),.d (cI y4.1.start),.d (cI y4.1.units),.d (cI y4.1.trunk),.d (cB y4.1.inbound),.d (cI y4.1.source),.d (cI y4.1.serial)],.row 29 [.d (cI y6.1.id),.d (cI y6.1.kind),.d (cI y6.1.account),.d (cI y6.1.sub),.d (cS y6.1.a),.d (cS y6.1.b),.d (cI y6.1.start),.d (cI y6.1.units),.d (cI y6.1.trunk),.d (cB y6.1.inbound),.d (cI y6.1.source),.d (cI y6.1.serial)]],[]⟩] hMix (by kernel_rfl) (by decide) (by decide) (by kernel_rfl) rfl ?_
 show XOps _ _ _ _ _ _ _ _ _ _ (_ :: _) _ _
 refine .g (x:=.d (slOf 7 Event.row y5)) 0 1 ⟨(g_call (en 44 rfl) rfl rfl (c_f_w21_opened (hy5))),(g_call (en 44 rfl) rfl rfl (c_f_w21_opened (hy5))),trivial⟩ rfl (by kernel_rfl) rfl ?_
 refine .g (x:=.d (.agg (Record.row (⟨1,1,1,([52,57,49,53]:List UInt8),([51,51]:List UInt8),200,5,0,0,false,0,false⟩:Record)))) 0 1 ⟨OpQ.g (q_loadOA one_24 sz_24 rfl rfl (Nat.le_of_ble_eq_true rfl) rfl),OpQ.g (q_loadOA one_24 sz_24 rfl rfl (Nat.le_of_ble_eq_true rfl) rfl),trivial⟩ rfl (by kernel_rfl) rfl ?_
 refine .g (x:=.d (.tup [.agg (Usage.row y6.1),cI y6.2])) 0 1 ⟨(g_call (en 45 rfl) rfl rfl (c_f_enrich_Usage (hy6))),(g_call (en 45 rfl) rfl rfl (c_f_enrich_Usage (hy6))),trivial⟩ rfl (by kernel_rfl) rfl ?_
 refine .g (x:=.d (.tup [.agg (Usage.row y6.1),cI y6.2])) 0 1 ⟨OpQ.g (q_move rfl),OpQ.g (q_move rfl),trivial⟩ rfl (by kernel_rfl) rfl ?_
 refine .g (x:=.d (.agg (Usage.row y6.1))) 0 1 ⟨OpQ.g (q_extract rfl rfl),OpQ.g (q_extract rfl rfl),trivial⟩ rfl (by kernel_rfl) rfl ?_
 refine .g (x:=.d (cI y6.2)) 0 2 ⟨OpQ.g (q_extract rfl rfl),OpQ.g (q_extract rfl rfl),OpQ.g (q_extract rfl rfl),trivial⟩ rfl (by kernel_rfl) rfl ?_
 refine .v (x:=.ref 6 0) 0 (v_alloc zr_29 rfl) rfl rfl rfl rfl ?_
 refine .u 1 (u_store rfl rfl rfl rfl (Nat.le_of_ble_eq_true rfl) sz_29) rfl rfl rfl rfl ?_
 refine .nil rfl ?_
 show AOps _ _ _ _ _ _ (_ :: _) _ _ _
 refine .A 3 [] rfl trivial ?_
 obtain ⟨y7,hy7,H⟩:=bind_some' H
 obtain ⟨y8,hy8,H⟩:=bind_some' H
 refine .orders2 8 6 7 [⟨[.row 24 [.d (cI 1),.d (cI 1),.d (cI 1),.d (cS ([52,57,49,53]:List UInt8)),.d (cS ([51,51]:List UInt8)),.d (cI 100),.d (cI 5),.d (cI 0),.d (cI 0),.d (cB false),.d (cI 0),.d (cB false)],.row 24 [.d (cI 1),.d (cI 1),.d (cI 1),.d (cS ([52,57,49,53]:List UInt8)),.d (cS ([51,51]:List UInt8)),.d (cI 99),.d (cI 5),.d (cI 0),.d (cI 0),.d (cB false),.d (cI 0),.d (cB false)],.row 24 [.d (cI 1),.d (cI 1),.d (cI 1),.d (cS ([52,57,49,53]:List UInt8)),.d (cS ([51,51]:List UInt8)),.d (cI 200),.d (cI 5),.d (cI 0),.d (cI 0),.d (cB false),.d (cI 0),.d (cB false)],.row 24 [.d (cI 1),.d (cI 2),.d (cI 1),.d (cS ([51,51]:List UInt8)),.d (cS ([52,57,49,53]:List UInt8)),.d (cI 200),.d (cI 5),.d (cI 0),.d (cI 0),.d (cB false),.d (cI 5),.d (cB true)],.row 29 [.d (cI y2.1.id),.d (cI y2.1.kind),.d (cI y2.1.account),.d (cI y2.1.sub),.d (cS y2.1.a),.d (cS y2.1.b),.d (cI y2.1.start),.d (cI y2.1.units),.d (cI y2.1.trunk),.d (cB y2.1.inbound),.d (cI y2.1.source),.d (cI y2.1.serial)],.row 29 [.d (cI y4.1.id),.d (cI y4.1.kind),.d (cI y4.1.account),.d (cI y4.1.sub),.d (cS y4.1.a),.d (cS y4.1.b),.d (cI y4.1.start),.d (cI y4.1.units),.d (cI y4.1.trunk),.d (cB y4.1.inbound),.d (cI y4.1.source),.d (cI y4.1.serial)],.row 29 [.d (cI y6.1.id),.d (cI y6.1.kind),.d (cI y6.1.account),.d (cI y6.1.sub),.d (cS y6.1.a),.d (cS y6.1.b),.d (cI y6.1.start),.d (cI y6.1.units),.d (cI y6.1.trunk),.d (cB y6.1.inbound),.d (cI y6.1.source),.d (cI y6.1.serial)]],[]⟩,⟨[.row 24 [.d (cI 1),.d (cI 1),.d (cI 1),.d (cS ([52,57,49,53]:List UInt8)),.d (cS ([51,51]:List UInt8)),.d (cI 100),.d (cI 5),.d (cI 0),.d (cI 0),.d (cB false),.d (cI 0),.d (cB false)],.row 24 [.d (cI 1),.d (cI 1),.d (cI 1),.d (cS ([52,57,49,53]:List UInt8)),.d (cS ([51,51]:List UInt8)),.d (cI 99),.d (cI 5),.d (cI 0),.d (cI 0),.d (cB false),.d (cI 0),.d (cB false)],.row 24 [.d (cI 1),.d (cI 1),.d (cI 1),.d (cS ([52,57,49,53]:List UInt8)),.d (cS ([51,51]:List UInt8)),.d (cI 200),.d (cI 5),.d (cI 0),.d (cI 0),.d (cB false),.d (cI 0),.d (cB false)],.row 24 [.d (cI 1),.d (cI 2),.d (cI 1),.d (cS ([51,51]:List UInt8)),.d (cS ([52,57,49,53]:List UInt8)),.d (cI 200),.d (cI 5),.d (cI 0),.d (cI 0),.d (cB false),.d (cI 5),.d (cB true)],.row 29 [.d (cI y2.1.id),.d (cI y2.1.kind),.d (cI y2.1.account),.d (cI y2.1.sub),.d (cS y2.1.a),.d (cS y2.1.b),.d (cI y2.1.start),.d (cI y2.1.units),.d (cI y2.1.trunk),.d (cB y2.1.inbound),.d (cI y2.1.source),.d (cI y2.1.serial)],.row 29 [.d (cI y4.1.id),.d (cI y4.1.kind),.d (cI y4.1.account),.d (cI y4.1.sub),.d (cS y4.1.a),.d (cS y4.1.b),.d (cI y4.1.start),.d (cI y4.1.units),.d (cI y4.1.trunk),.d (cB y4.1.inbound),.d (cI y4.1.source),.d (cI y4.1.serial)],.row 29 [.d (cI y6.1.id),.d (cI y6.1.kind),.d (cI y6.1.account),.d (cI y6.1.sub),.d (cS y6.1.a),.d (cS y6.1.b),.d (cI y6.1.start),.d (cI y6.1.units),.d (cI y6.1.trunk),.d (cB y6.1.inbound),.d (cI y6.1.source),.d (cI y6.1.serial)],.row 29 [.d (cI 0),.d (cI 0),.d (cI 0),.d (cI 0),.d (cS ([]:List UInt8)),.d (cS ([]:List UInt8)),.d (cI 0),.d (cI 0),.d (cI 0),.d (cB false),.d (cI 0),.d (cI 0)]],[]⟩,⟨[.row 24 [.d (cI 1),.d (cI 1),.d (cI 1),.d (cS ([52,57,49,53]:List UInt8)),.d (cS ([51,51]:List UInt8)),.d (cI 100),.d (cI 5),.d (cI 0),.d (cI 0),.d (cB false),.d (cI 0),.d (cB false)],.row 24 [.d (cI 1),.d (cI 1),.d (cI 1),.d (cS ([52,57,49,53]:List UInt8)),.d (cS ([51,51]:List UInt8)),.d (cI 99),.d (cI 5),.d (cI 0),.d (cI 0),.d (cB false),.d (cI 0),.d (cB false)],.row 24 [.d (cI 1),.d (cI 1),.d (cI 1),.d (cS ([52,57,49,53]:List UInt8)),.d (cS ([51,51]:List UInt8)),.d (cI 200),.d (cI 5),.d (cI 0),.d (cI 0),.d (cB false),.d (cI 0),.d (cB false)],.row 24 [.d (cI 1),.d (cI 2),.d (cI 1),.d (cS ([51,51]:List UInt8)),.d (cS ([52,57,49,53]:List UInt8)),.d (cI 200),.d (cI 5),.d (cI 0),.d (cI 0),.d (cB false),.d (cI 5),.d (cB true)],.row 29 [.d (cI y2.1.id),.d (cI y2.1.kind),.d (cI y2.1.account),.d (cI y2.1.sub),.d (cS y2.1.a),.d (cS y2.1.b),.d (cI y2.1.start),.d (cI y2.1.units),.d (cI y2.1.trunk),.d (cB y2.1.inbound),.d (cI y2.1.source),.d (cI y2.1.serial)],.row 29 [.d (cI y4.1.id),.d (cI y4.1.kind),.d (cI y4.1.account),.d (cI y4.1.sub),.d (cS y4.1.a),.d (cS y4.1.b),.d (cI y4.1.start),.d (cI y4.1.units),.d (cI y4.1.trunk),.d (cB y4.1.inbound),.d (cI y4.1.source),.d (cI y4.1.serial)],.row 29 [.d (cI y6.1.id),.d (cI y6.1.kind),.d (cI y6.1.account),.d (cI y6.1.sub),.d (cS y6.1.a),.d (cS y6.1.b),.d (cI y6.1.start),.d (cI y6.1.units),.d (cI y6.1.trunk),.d (cB y6.1.inbound),.d (cI y6.1.source),.d (cI y6.1.serial)],.row 29 [.d (cI y8.1.id),.d (cI y8.1.kind),.d (cI y8.1.account),.d (cI y8.1.sub),.d (cS y8.1.a),.d (cS y8.1.b),.d (cI y8.1.start),.d (cI y8.1.units),.d (cI y8.1.trunk),.d (cB y8.1.inbound),.d (cI y8.1.source),.d (cI y8.1.serial)]],[]⟩] hMix (by kernel_rfl) (by decide) (by decide) (by kernel_rfl) rfl ?_
 show XOps _ _ _ _ _ _ _ _ _ _ (_ :: _) _ _
 refine .g (x:=.d (slOf 7 Event.row y7)) 0 1 ⟨(g_call (en 44 rfl) rfl rfl (c_f_w21_opened (hy7))),(g_call (en 44 rfl) rfl rfl (c_f_w21_opened (hy7))),trivial⟩ rfl (by kernel_rfl) rfl ?_
 refine .g (x:=.d (.agg (Record.row (⟨1,2,1,([51,51]:List UInt8),([52,57,49,53]:List UInt8),200,5,0,0,false,5,true⟩:Record)))) 0 1 ⟨OpQ.g (q_loadOA one_24 sz_24 rfl rfl (Nat.le_of_ble_eq_true rfl) rfl),OpQ.g (q_loadOA one_24 sz_24 rfl rfl (Nat.le_of_ble_eq_true rfl) rfl),trivial⟩ rfl (by kernel_rfl) rfl ?_
 refine .g (x:=.d (.tup [.agg (Usage.row y8.1),cI y8.2])) 0 1 ⟨(g_call (en 45 rfl) rfl rfl (c_f_enrich_Usage (hy8))),(g_call (en 45 rfl) rfl rfl (c_f_enrich_Usage (hy8))),trivial⟩ rfl (by kernel_rfl) rfl ?_
 refine .g (x:=.d (.tup [.agg (Usage.row y8.1),cI y8.2])) 0 1 ⟨OpQ.g (q_move rfl),OpQ.g (q_move rfl),trivial⟩ rfl (by kernel_rfl) rfl ?_
 refine .g (x:=.d (.agg (Usage.row y8.1))) 0 1 ⟨OpQ.g (q_extract rfl rfl),OpQ.g (q_extract rfl rfl),trivial⟩ rfl (by kernel_rfl) rfl ?_
 refine .g (x:=.d (cI y8.2)) 0 2 ⟨OpQ.g (q_extract rfl rfl),OpQ.g (q_extract rfl rfl),OpQ.g (q_extract rfl rfl),trivial⟩ rfl (by kernel_rfl) rfl ?_
 refine .v (x:=.ref 7 0) 0 (v_alloc zr_29 rfl) rfl rfl rfl rfl ?_
 refine .u 1 (u_store rfl rfl rfl rfl (Nat.le_of_ble_eq_true rfl) sz_29) rfl rfl rfl rfl ?_
 refine .nil rfl ?_
 show AOps _ _ _ _ _ _ (_ :: _) _ _ _
 obtain ⟨y9,hy9,H⟩:=bind_some' H
 obtain ⟨y10,hy10,H⟩:=bind_some' H
 refine .A 49 [.b y9,.b y10] rfl ⟨rfl,rfl,fun hg=>g_call (en 46 rfl) rfl rfl (c_f_enrich_Retail (gcall_some hy10 hg)),rfl,rfl,rfl,rfl,rfl,fun hg=>g_call (en 46 rfl) rfl rfl (c_f_enrich_Retail (gcall_some hy9 hg)),rfl,rfl,rfl,rfl,rfl,rfl,rfl,rfl,rfl,rfl,rfl,rfl,rfl,rfl,rfl,rfl⟩ ?_
 refine .R func10 results10 rfl ?_
 cases H
 exact .m rfl (.rfl' _)
set_option maxRecDepth 100000
set_option maxHeartbeats 1000000
theorem c_f_r17_Upto {v0events:List Event} {v1t:Int} {r:Billingref17Book} (H:f_r17_Upto v0events v1t=some r):ACall prog 26 [slOf 7 Event.row v0events,cI v1t] (·=.agg (Billingref17Book.row r)):=by
 obtain ⟨i67,hi67,hz67,hs67,hb67⟩:=in_67
 refine ACall.enter' func26 rfl ntmps26 rfl fun S hS=>?_
 unfold f_r17_Upto at H
 refine .A 16 [.r 0,.d (.agg (Billingref17Book.row (⟨([]:List Account),([]:List Sub),([]:List Int)⟩:Billingref17Book))),.r 1] rfl (OpQ.g (OpQ.le (q_buildP pl_67 hi67 hz67 rfl rfl) (EVle.d (.agg ⟨.nil 6,.nil 8,.nil 1,trivial⟩)))) ?_
 obtain ⟨n1,H⟩:=loop_some H
 refine .loop (ι:=Nat×(Int×List Account×List Sub×List Int)) (fun ⟨_,v6il1,o1c0l1,o1c1l1,o1c2l1⟩=>[(0,.d (slOf 7 Event.row v0events)),(1,.d (cI v1t)),(4,.ref 0 0),(5,.ref 1 0),(6,.d (cI v6il1))]) (fun ⟨_,v6il1,o1c0l1,o1c1l1,o1c2l1⟩=>⟨[.row 67 [.d (nilD),.d (nilD),.d (nilD)],.row 67 [.d (slOf 6 Account.row0 o1c0l1),.d (slOf 8 Sub.row o1c1l1),.d (slOf 1 rI o1c2l1)]],[]⟩) (fun p=>iter (fun s=>f_r17_Upto_l1 v0events v1t s.1 s.2.1 s.2.2.1 s.2.2.2) p.1 p.2=some r) (·.1) (n1,(0,([]:List Account),([]:List Sub),([]:List Int))) H (.cons rfl (.rfl' _) (.cons rfl (.rfl' _) (.cons rfl (.rfl' _) (.cons rfl (.rfl' _) (.cons rfl (.rfl' _) (.nil)))))) rfl ?_
 rintro ⟨m1,v6il1,o1c0l1,o1c1l1,o1c2l1⟩ HI ih1
 obtain ⟨n1,q1,hm1,H,HK1⟩:=iter_succ HI
 clear HI
 replace H:f_r17_Upto_l1 v0events v1t v6il1 o1c0l1 o1c1l1 o1c2l1=some q1:=H
 unfold f_r17_Upto_l1 at H
 refine .A 8 [.i (v0events.length:Int)] rfl (s22.n rfl rfl) ?_
 refine .ite H rfl (fun H=>?_) (fun H=>?_)
 ·obtain ⟨hk1,H⟩:=ck_some H
  refine .A 13 [.d (.ro (Event.row (nth v0events v6il1.toNat)))] rfl (s22.ix rfl rfl rfl hk1) ?_
  refine .ite H rfl (fun H=>?_) (fun H=>?_)
  ·obtain ⟨hk2,H⟩:=ck_some H
   obtain ⟨y1,hy1,H⟩:=bind_some' H
   obtain ⟨hk3,H⟩:=ck_some H
   refine .A 16 [.p 6,.d (.ro (Event.row (nth v0events v6il1.toNat))),.d (.agg (Billingref17Book.row y1)),.i (v6il1+1)] rfl ⟨g_addI rfl rfl hk3,g_call (en 18 rfl) rfl rfl (c_f_r17_Apply (hy1)),s22.ix rfl rfl rfl hk2,(show drawB _ _=true by kernel_rfl)⟩ ?_
   cases H
   exact .z (ih1 (n1,(v6il1+1,y1.accounts,y1.subs,y1.ended)) HK1 hm1) rfl rfl
  ·obtain ⟨hk4,H⟩:=ck_some H
   refine .A 7 [.i (v6il1+1)] rfl (g_addI rfl rfl hk4) ?_
   cases H
   exact .z (ih1 (n1,(v6il1+1,o1c0l1,o1c1l1,o1c2l1)) HK1 hm1) rfl rfl
 ·refine .A 6 [] rfl trivial ?_
  refine .R func26 results26 rfl ?_
  cases H
  cases HK1
  exact .m rfl (.rfl' _)
theorem c_f_r17_State {v0:List Event} {v1:Int} {r:Customers} (H:f_r17_State v0 v1=some r):ACall prog 24 [slOf 7 Event.row v0,cI v1] (·=.agg (Customers.row r)):=by
 obtain ⟨i3,hi3,hz3,hs3,hb3⟩:=in_3
 obtain ⟨i38,hi38,hz38,hs38,hb38⟩:=in_38
 obtain ⟨i62,hi62,hz62,hs62,hb62⟩:=in_62
 obtain ⟨i77,hi77,hz77,hs77,hb77⟩:=in_77
 refine ACall.enter' func24 rfl ntmps24 rfl fun S hS=>?_
 unfold f_r17_State at H
 obtain ⟨y1,hy1,H⟩:=bind_some' H
 refine .A 23 [.r 0,.d (.agg (Billingref17Book.row y1)),.r 1,.d (.agg [nilD,nilD]),.r 2] rfl ⟨OpQ.g (q_buildP pl_62 hi62 hz62 rfl rfl),g_call (en 49 rfl) rfl rfl (c_f_r17_Upto (hy1))⟩ ?_
 refine .tokCell (o:=2) (ci:=1) (e:=38) (sz:=8) rfl rfl ?_
 refine .blockJoin2 (ι:=List Sub) (fun o2c1j1=>[(4,.ref 0 0),(5,.ref 1 0),(6,.ref 2 0)]) (fun o2c1j1=>⟨[.row 62 [.d (nilD),.d (nilD)],.row 67 [.d (slOf 6 Account.row0 y1.accounts),.d (slOf 8 Sub.row y1.subs),.d (slOf 1 rI y1.ended)],.row 62 [.d (nilD),.tsl 8 (o2c1j1.map Sub.row) 0]],[⟨38,8,o2c1j1.length,none⟩]⟩) (fun s=>f_r17_State_j1 y1 s=some r) ?_ ?_
 ·rintro o2c1j1 H
  replace H:f_r17_State_j1 y1 o2c1j1=some r:=H
  unfold f_r17_State_j1 at H
  refine .A 6 [] rfl trivial ?_
  refine .tokCell (o:=2) (ci:=0) (e:=77) (sz:=6) rfl rfl ?_
  obtain ⟨n1,H⟩:=loop_some H
  refine .loop (ι:=Nat×(Int×List Account)) (fun ⟨_,v9l1,o2c0l1⟩=>[(4,.ref 0 0),(5,.ref 1 0),(6,.ref 2 0),(9,.d (cI v9l1))]) (fun ⟨_,v9l1,o2c0l1⟩=>⟨[.row 62 [.d (nilD),.d (nilD)],.row 67 [.d (slOf 6 Account.row0 y1.accounts),.d (slOf 8 Sub.row y1.subs),.d (slOf 1 rI y1.ended)],.row 62 [.tsl 6 (o2c0l1.map Account.row) 1,.tsl 8 (o2c1j1.map Sub.row) 0]],[⟨38,8,o2c1j1.length,none⟩,⟨77,6,o2c0l1.length,none⟩]⟩) (fun p=>iter (fun s=>f_r17_State_l1 y1 o2c1j1 s.1 s.2) p.1 p.2=some r) (·.1) (n1,(1,([]:List Account))) H (.cons rfl (.rfl' _) (.cons rfl (.rfl' _) (.cons rfl (.rfl' _) (.cons rfl (.rfl' _) (.nil))))) rfl ?_
  rintro ⟨m1,v9l1,o2c0l1⟩ HI ih1
  obtain ⟨n1,q1,hm1,H,HK1⟩:=iter_succ HI
  clear HI
  replace H:f_r17_State_l1 y1 o2c1j1 v9l1 o2c0l1=some q1:=H
  unfold f_r17_State_l1 at H
  refine .A 15 [.i (o2c0l1.length:Int),.i (y1.accounts.length:Int)] rfl ⟨rfl,rfl,rfl,fun hg=>s59.n rfl rfl,rfl,rfl,fun hg=>s59.n rfl rfl,rfl,rfl⟩ ?_
  refine .ite H rfl (fun H=>?_) (fun H=>?_)
  ·obtain ⟨y2,hy2,H⟩:=bind_some' H
   refine .A 16 [.i y2] rfl (g_call (en 6 rfl) rfl rfl (c_f_r17_account (hy2))) ?_
   refine .ite H rfl (fun H=>?_) (fun H=>?_)
   ·obtain ⟨hk1,H⟩:=ck_some H
    refine .A 6 [.i (v9l1+1)] rfl (g_addI rfl rfl hk1) ?_
    cases H
    exact .z (ih1 (n1,(v9l1+1,o2c0l1)) HK1 hm1) rfl rfl
   ·obtain ⟨hk2,H⟩:=ck_some H
    refine .A 16 [.d (.ro (Account.row0 (nth y1.accounts y2.toNat))),.r 3] rfl (s59.ix rfl rfl rfl hk2) ?_
    refine .blockJoin2 (ι:=List Int) (fun o3c5j2=>[(4,.ref 0 0),(5,.ref 1 0),(6,.ref 2 0),(9,.d (cI v9l1)),(11,.ref 3 0)]) (fun o3c5j2=>⟨[.row 62 [.d (nilD),.d (nilD)],.row 67 [.d (slOf 6 Account.row0 y1.accounts),.d (slOf 8 Sub.row y1.subs),.d (slOf 1 rI y1.ended)],.row 62 [.tsl 6 (o2c0l1.map Account.row) 1,.tsl 8 (o2c1j1.map Sub.row) 0],.row 77 [.d (cI ((nth y1.accounts y2.toNat).id)),.d (cI ((nth y1.accounts y2.toNat).since)),.d (cI ((nth y1.accounts y2.toNat).anchor)),.d (cB ((nth y1.accounts y2.toNat).prepaid)),.d (cB ((nth y1.accounts y2.toNat).closed)),.d (slOf 1 rI o3c5j2)]],[⟨38,8,o2c1j1.length,none⟩,⟨77,6,o2c0l1.length,none⟩]⟩) (fun s=>f_r17_State_j2 y1 v9l1 o2c0l1 y2 s=some q1) ?_ ?_
    ·rintro o3c5j2 H
     replace H:f_r17_State_j2 y1 v9l1 o2c0l1 y2 o3c5j2=some q1:=H
     unfold f_r17_State_j2 at H
     obtain ⟨hk3,H⟩:=ck_some H
     obtain ⟨hk4,H⟩:=ck_some H
     refine .A 15 [.d (slOf 6 Account.row ([(⟨(nth y1.accounts y2.toNat).id,(nth y1.accounts y2.toNat).since,(nth y1.accounts y2.toNat).anchor,(nth y1.accounts y2.toNat).prepaid,(nth y1.accounts y2.toNat).closed,o3c5j2⟩:Account)]:List Account)),.a 1 77 6 Account.row (o2c0l1++([(⟨(nth y1.accounts y2.toNat).id,(nth y1.accounts y2.toNat).since,(nth y1.accounts y2.toNat).anchor,(nth y1.accounts y2.toNat).prepaid,(nth y1.accounts y2.toNat).closed,o3c5j2⟩:Account)]:List Account)),.i (v9l1+1)] rfl ⟨g_addI rfl rfl hk4,s59.a rfl rfl rfl rfl hk3,g_buildSlice1 underlying59 hi77 hs77 hz77 rfl rfl rfl rfl rfl⟩ ?_
     cases H
     exact .t 3 2 (ih1 (n1,(v9l1+1,o2c0l1++([(⟨(nth y1.accounts y2.toNat).id,(nth y1.accounts y2.toNat).since,(nth y1.accounts y2.toNat).anchor,(nth y1.accounts y2.toNat).prepaid,(nth y1.accounts y2.toNat).closed,o3c5j2⟩:Account)]:List Account))) HK1 hm1) rfl rfl rfl rfl rfl hS rfl
    ·intro hj2 hj2x
     refine .tokCellE (o:=3) (ci:=5) (e:=3) (sz:=1) rfl rfl ?_
     obtain ⟨n2,H⟩:=loop_some H
     refine .loop (ι:=Nat×(Int×List Int)) (fun ⟨_,v12l2,o3c5l2⟩=>[(4,.ref 0 0),(5,.ref 1 0),(6,.ref 2 0),(9,.d (cI v9l1)),(11,.ref 3 0),(12,.d (cI v12l2))]) (fun ⟨_,v12l2,o3c5l2⟩=>⟨[.row 62 [.d (nilD),.d (nilD)],.row 67 [.d (slOf 6 Account.row0 y1.accounts),.d (slOf 8 Sub.row y1.subs),.d (slOf 1 rI y1.ended)],.row 62 [.tsl 6 (o2c0l1.map Account.row) 1,.tsl 8 (o2c1j1.map Sub.row) 0],.row 77 [.d (cI ((nth y1.accounts y2.toNat).id)),.d (cI ((nth y1.accounts y2.toNat).since)),.d (cI ((nth y1.accounts y2.toNat).anchor)),.d (cB ((nth y1.accounts y2.toNat).prepaid)),.d (cB ((nth y1.accounts y2.toNat).closed)),.tsl 1 (o3c5l2.map rI) 2]],[⟨38,8,o2c1j1.length,none⟩,⟨77,6,o2c0l1.length,none⟩,⟨3,1,o3c5l2.length,none⟩]⟩) (fun p=>iter (fun s=>f_r17_State_l2 y1 o2c1j1 v9l1 o2c0l1 y2 s.1 s.2) p.1 p.2=some q1) (·.1) (n2,(0,([]:List Int))) H (.cons rfl (.rfl' _) (.cons rfl (.rfl' _) (.cons rfl (.rfl' _) (.cons rfl (.rfl' _) (.cons rfl (.rfl' _) (.cons rfl (.rfl' _) (.nil))))))) rfl ?_
     rintro ⟨m2,v12l2,o3c5l2⟩ HI ih2
     obtain ⟨n2,q2,hm2,H,HK2⟩:=iter_succ HI
     clear HI
     replace H:f_r17_State_l2 y1 o2c1j1 v9l1 o2c0l1 y2 v12l2 o3c5l2=some q2:=H
     unfold f_r17_State_l2 at H
     refine .A 9 [.i (o2c1j1.length:Int)] rfl (s60.n rfl rfl) ?_
     refine .ite H rfl (fun H=>?_) (fun H=>?_)
     ·obtain ⟨hk5,H⟩:=ck_some H
      refine .A 14 [.d (.ro (Sub.row (nth o2c1j1 v12l2.toNat)))] rfl (s60.ix rfl rfl rfl hk5) ?_
      refine .ite H rfl (fun H=>?_) (fun H=>?_)
      ·obtain ⟨hk6,H⟩:=ck_some H
       obtain ⟨hk7,H⟩:=ck_some H
       obtain ⟨hk8,H⟩:=ck_some H
       refine .A 21 [.p 9,.d (.ro (Sub.row (nth o2c1j1 v12l2.toNat))),.d (slOf 1 rI ([(nth o2c1j1 v12l2.toNat).id]:List Int)),.a 2 3 1 rI (o3c5l2++([(nth o2c1j1 v12l2.toNat).id]:List Int)),.i (v12l2+1)] rfl ⟨g_addI rfl rfl hk8,s65.a rfl rfl rfl rfl hk7,g_buildSlice1 underlying65 hi3 hs3 hz3 rfl rfl rfl rfl rfl,s60.ix rfl rfl rfl hk6,(show drawB _ _=true by kernel_rfl)⟩ ?_
       cases H
       exact .z (ih2 (n2,(v12l2+1,o3c5l2++([(nth o2c1j1 v12l2.toNat).id]:List Int))) HK2 hm2) rfl rfl
      ·obtain ⟨hk9,H⟩:=ck_some H
       refine .A 7 [.i (v12l2+1)] rfl (g_addI rfl rfl hk9) ?_
       cases H
       exact .z (ih2 (n2,(v12l2+1,o3c5l2)) HK2 hm2) rfl rfl
     ·refine .A 1 [] rfl trivial ?_
      obtain ⟨q0,H9,hq0⟩:=map_some' H; clear H; cases hq0
      cases HK2
      have H:=H9
      refine .cellLe 3 5 rfl rfl (.tsl _ _ _) ?_
      exact .t 4 2 (hj2x o3c5l2 H) rfl rfl rfl rfl rfl hS rfl
  ·refine .B 3 [] rfl trivial ?_
   refine .cellLe 2 0 rfl rfl (.tsl _ _ _) ?_
   refine .cellLe 2 1 rfl rfl (.tsl _ _ _) ?_
   refine .A 3 [] rfl trivial ?_
   refine .R func24 results24 rfl ?_
   cases H
   cases HK1
   exact .m rfl (.rfl' _)
 ·intro hj1 hj1x
  obtain ⟨n3,H⟩:=loop_some H
  refine .loop (ι:=Nat×(Int×List Sub)) (fun ⟨_,v7l3,o2c1l3⟩=>[(4,.ref 0 0),(5,.ref 1 0),(6,.ref 2 0),(7,.d (cI v7l3))]) (fun ⟨_,v7l3,o2c1l3⟩=>⟨[.row 62 [.d (nilD),.d (nilD)],.row 67 [.d (slOf 6 Account.row0 y1.accounts),.d (slOf 8 Sub.row y1.subs),.d (slOf 1 rI y1.ended)],.row 62 [.d (nilD),.tsl 8 (o2c1l3.map Sub.row) 0]],[⟨38,8,o2c1l3.length,none⟩]⟩) (fun p=>iter (fun s=>f_r17_State_l3 y1 s.1 s.2) p.1 p.2=some r) (·.1) (n3,(1,([]:List Sub))) H (.cons rfl (.rfl' _) (.cons rfl (.rfl' _) (.cons rfl (.rfl' _) (.cons rfl (.rfl' _) (.nil))))) rfl ?_
  rintro ⟨m1,v7l3,o2c1l3⟩ HI ih1
  obtain ⟨n1,q1,hm1,H,HK1⟩:=iter_succ HI
  clear HI
  replace H:f_r17_State_l3 y1 v7l3 o2c1l3=some q1:=H
  unfold f_r17_State_l3 at H
  obtain ⟨hk10,H⟩:=ck_some H
  refine .A 19 [.i (o2c1l3.length:Int),.i (y1.subs.length:Int),.i (y1.ended.length:Int),.i ((y1.subs.length:Int) - (y1.ended.length:Int))] rfl ⟨rfl,rfl,rfl,fun hg=>g_subI rfl rfl (hk10 hg),rfl,rfl,fun hg=>s65.n rfl rfl,rfl,rfl,fun hg=>s60.n rfl rfl,rfl,rfl,fun hg=>s60.n rfl rfl,rfl,rfl⟩ ?_
  refine .ite H rfl (fun H=>?_) (fun H=>?_)
  ·obtain ⟨y3,hy3,H⟩:=bind_some' H
   obtain ⟨y4,hy4,H⟩:=bind_some' H
   refine .A 21 [.i y3,.b y4] rfl ⟨rfl,rfl,fun hg=>g_call (en 5 rfl) rfl rfl (c_f_r17_ended (gcall_some hy4 hg)),rfl,rfl,g_call (en 7 rfl) rfl rfl (c_f_r17_sub (hy3))⟩ ?_
   refine .ite H rfl (fun H=>?_) (fun H=>?_)
   ·obtain ⟨hk11,H⟩:=ck_some H
    obtain ⟨hk12,H⟩:=ck_some H
    obtain ⟨hk13,H⟩:=ck_some H
    refine .A 20 [.p 8,.d (.ro (Sub.row (nth y1.subs y3.toNat))),.d (slOf 8 Sub.row ([nth y1.subs y3.toNat]:List Sub)),.a 0 38 8 Sub.row (o2c1l3++([nth y1.subs y3.toNat]:List Sub)),.i (v7l3+1)] rfl ⟨g_addI rfl rfl hk13,s60.a rfl rfl rfl rfl hk12,g_buildSlice1 underlying60 hi38 hs38 hz38 rfl rfl rfl rfl rfl,s60.ix rfl rfl rfl hk11,(show drawB _ _=true by kernel_rfl)⟩ ?_
    cases H
    exact .z (ih1 (n1,(v7l3+1,o2c1l3++([nth y1.subs y3.toNat]:List Sub))) HK1 hm1) rfl rfl
   ·obtain ⟨hk14,H⟩:=ck_some H
    refine .A 7 [.i (v7l3+1)] rfl (g_addI rfl rfl hk14) ?_
    cases H
    exact .z (ih1 (n1,(v7l3+1,o2c1l3)) HK1 hm1) rfl rfl
  ·refine .A 1 [] rfl trivial ?_
   obtain ⟨q0,H9,hq0⟩:=map_some' H; clear H; cases hq0
   cases HK1
   have H:=H9
   exact .z (hj1x o2c1l3 H) rfl rfl
theorem c_f_r18_Owner {v0events:List Event} {v1number:List UInt8} {v2t:Int} {r:Int×Bool} (H:f_r18_Owner v0events v1number v2t=some r):ACall prog 13 [slOf 7 Event.row v0events,cS v1number,cI v2t] (·=.tup [cI r.1,cB r.2]):=by
 refine ACall.enter' func13 rfl ntmps13 rfl fun S hS=>?_
 unfold f_r18_Owner at H
 obtain ⟨y1,hy1,H⟩:=bind_some' H
 refine .A 19 [.d (.agg (Customers.row y1)),.r 0] rfl (g_call (en 50 rfl) rfl rfl (c_f_r17_State (hy1))) ?_
 obtain ⟨n1,H⟩:=loop_some H
 refine .loop (ι:=Nat×(Int)) (fun ⟨_,v9il1⟩=>[(1,.d (cS v1number)),(8,.ref 0 0),(9,.d (cI v9il1))]) (fun ⟨_,v9il1⟩=>⟨[.row 62 [.d (slOf 6 Account.row y1.accounts),.d (slOf 8 Sub.row y1.subs)]],[]⟩) (fun p=>iter (fun s=>f_r18_Owner_l1 v1number y1 s) p.1 p.2=some r) (·.1) (n1,0) H (.cons rfl (.rfl' _) (.cons rfl (.rfl' _) (.cons rfl (.rfl' _) (.nil)))) rfl ?_
 rintro ⟨m1,v9il1⟩ HI ih1
 obtain ⟨n1,q1,hm1,H,HK1⟩:=iter_succ HI
 clear HI
 replace H:f_r18_Owner_l1 v1number y1 v9il1=some q1:=H
 unfold f_r18_Owner_l1 at H
 refine .A 9 [.i (y1.subs.length:Int)] rfl (s60.n rfl rfl) ?_
 refine .ite H rfl (fun H=>?_) (fun H=>?_)
 ·obtain ⟨hk1,H⟩:=ck_some H
  obtain ⟨y2,hy2,H⟩:=bind_some' H
  refine .A 14 [.d (.ro (Sub.row (nth y1.subs v9il1.toNat))),.b y2] rfl ⟨g_call (en 9 rfl) rfl rfl (c_f_r17_Has (hy2)),s60.ix rfl rfl rfl hk1⟩ ?_
  refine .ite H rfl (fun H=>?_) (fun H=>?_)
  ·obtain ⟨hk2,H⟩:=ck_some H
   refine .A 11 [.d (.ro (Sub.row (nth y1.subs v9il1.toNat)))] rfl (s60.ix rfl rfl rfl hk2) ?_
   refine .R func13 results13 rfl ?_
   cases H
   cases HK1
   exact .m rfl (.tupD rfl)
  ·obtain ⟨hk3,H⟩:=ck_some H
   refine .A 7 [.i (v9il1+1)] rfl (g_addI rfl rfl hk3) ?_
   cases H
   exact .z (ih1 (n1,(v9il1+1)) HK1 hm1) rfl rfl
 ·refine .A 6 [] rfl trivial ?_
  refine .R func13 results13 rfl ?_
  cases H
  cases HK1
  exact .m rfl (.tupD rfl)
theorem c_f_r17_Sub {v0events:List Event} {v1id:Int} {v2t:Int} {r:Sub×Bool} (H:f_r17_Sub v0events v1id v2t=some r):ACall prog 14 [slOf 7 Event.row v0events,cI v1id,cI v2t] (·=.tup [.agg (Sub.row r.1),cB r.2]):=by
 obtain ⟨i38,hi38,hz38,hs38,hb38⟩:=in_38
 refine ACall.enter' func14 rfl ntmps14 rfl fun S hS=>?_
 unfold f_r17_Sub at H
 obtain ⟨y1,hy1,H⟩:=bind_some' H
 obtain ⟨y2,hy2,H⟩:=bind_some' H
 obtain ⟨y3,hy3,H⟩:=bind_some' H
 refine .A 31 [.r 0,.d (.agg (Billingref17Book.row y1)),.r 1,.i y2,.b y3] rfl ⟨rfl,fun hg=>g_call (en 5 rfl) rfl rfl (c_f_r17_ended (gcall_some hy3 hg)),rfl,rfl,g_call (en 7 rfl) rfl rfl (c_f_r17_sub (hy2)),g_call (en 49 rfl) rfl rfl (c_f_r17_Upto (hy1))⟩ ?_
 refine .ite H rfl (fun H=>?_) (fun H=>?_)
 ·refine .A 6 [.d (.agg (Sub.row (⟨0,0,0,([]:List UInt8),([]:List (List UInt8)),([]:List (List UInt8)),false,false⟩:Sub)))] rfl (OpQ.g (OpQ.le (q_buildP pl_38 hi38 hz38 rfl rfl) (EVle.d (.agg ⟨.rfl' _,.rfl' _,.rfl' _,.rfl' _,.nil 1,.nil 1,.rfl' _,.rfl' _,trivial⟩)))) ?_
  refine .R func14 results14 rfl ?_
  cases H
  exact .m rfl (.tupD rfl)
 ·obtain ⟨hk1,H⟩:=ck_some H
  refine .A 11 [.d (.ro (Sub.row (nth y1.subs y2.toNat)))] rfl (s60.ix rfl rfl rfl hk1) ?_
  refine .R func14 results14 rfl ?_
  cases H
  exact .m rfl (.tupD rfl)
theorem c_f_r21_Record {v0u:Usage} {r:Record} (H:f_r21_Record v0u=some r):ACall prog 15 [.agg (Usage.row v0u)] (·=.agg (Record.row r)):=by
 obtain ⟨i24,hi24,hz24,hs24,hb24⟩:=in_24
 refine ACall.enter' func15 rfl ntmps15 rfl fun S hS=>?_
 unfold f_r21_Record at H
 refine .A 28 [.r 0,.r 1,.d (.agg (Record.row (⟨v0u.source,v0u.serial,v0u.kind,v0u.a,v0u.b,v0u.start,v0u.units,0,0,false,v0u.trunk,v0u.inbound⟩:Record)))] rfl (OpQ.g (q_buildP pl_24 hi24 hz24 rfl (by kernel_rfl))) ?_
 refine .R func15 results15 rfl ?_
 cases H
 exact .m rfl (.rfl' _)
set_option maxRecDepth 100000
set_option maxHeartbeats 1000000
theorem c_f_w21_EnrichFields {v0:List Event} {v1:Record} {v2:Int} {r:Bool} (H:f_w21_EnrichFields v0 v1 v2=some r):ACall prog 4 [slOf 7 Event.row v0,.agg (Record.row v1),cI v2] (·=cB r):=by
 obtain ⟨i29,hi29,hz29,hs29,hb29⟩:=in_29
 refine ACall.enter' func4 rfl ntmps4 rfl fun S hS=>?_
 unfold f_w21_EnrichFields at H
 obtain ⟨y1,hy1,H⟩:=bind_some' H
 obtain ⟨y2,hy2,H⟩:=bind_some' H
 refine .A 17 [.r 0,.b y1,.b y2] rfl ⟨rfl,rfl,fun hg=>g_call (en 54 rfl) rfl rfl (c_f_w21_short (gcall_some hy2 hg)),rfl,g_call (en 55 rfl) rfl rfl (c_f_r21_Few (hy1))⟩ ?_
 refine .ite H rfl (fun H=>?_) (fun H=>?_)
 ·obtain ⟨y3,hy3,H⟩:=bind_some' H
  refine .A 5 [.b y3] rfl (g_call (en 56 rfl) rfl rfl (c_f_w21_awake (hy3))) ?_
  refine .R func4 results4 rfl ?_
  cases H
  exact .m rfl (.rfl' _)
 ·obtain ⟨y4,hy4,H⟩:=bind_some' H
  refine .A 20 [.d (.tup [.agg (Usage.row y4.1),cI y4.2]),.r 1] rfl (g_call (en 45 rfl) rfl rfl (c_f_enrich_Usage (hy4))) ?_
  refine .ite H rfl (fun H=>?_) (fun H=>?_)
  ·obtain ⟨y5,hy5,H⟩:=bind_some' H
   refine .A 10 [.d (.agg (Usage.row (⟨0,0,0,0,([]:List UInt8),([]:List UInt8),0,0,0,false,0,0⟩:Usage))),.b (eqVs (Usage.vals y4.1) (Usage.vals (⟨0,0,0,0,([]:List UInt8),([]:List UInt8),0,0,0,false,0,0⟩:Usage))),.b y5] rfl ⟨rfl,fun hg=>g_call (en 56 rfl) rfl rfl (c_f_w21_awake (gcall_some hy5 hg)),OpQ.g (q_steql fk_29 rfl rfl (xs:=Usage.vals y4.1) (ys:=Usage.vals (⟨0,0,0,0,([]:List UInt8),([]:List UInt8),0,0,0,false,0,0⟩:Usage)) rfl rfl rfl rfl),OpQ.g (q_buildP pl_29 hi29 hz29 rfl rfl)⟩ ?_
   refine .R func4 results4 rfl ?_
   cases H
   exact .m rfl (.rfl' _)
  ·refine .A 7 [] rfl trivial ?_
   refine .seqJoin (ι:=List UInt8) (fun v9j1=>[(0,.d (slOf 7 Event.row v0)),(2,.d (cI v2)),(4,.ref 0 0),(7,.ref 1 0),(9,.d (cS v9j1))]) (fun v9j1=>⟨[.row 24 [.d (cI v1.source),.d (cI v1.serial),.d (cI v1.kind),.d (cS v1.a),.d (cS v1.b),.d (cI v1.start),.d (cI v1.units),.d (cI v1.call),.d (cI v1.part),.d (cB v1.last),.d (cI v1.trunk),.d (cB v1.inbound)],.row 29 [.d (cI y4.1.id),.d (cI y4.1.kind),.d (cI y4.1.account),.d (cI y4.1.sub),.d (cS y4.1.a),.d (cS y4.1.b),.d (cI y4.1.start),.d (cI y4.1.units),.d (cI y4.1.trunk),.d (cB y4.1.inbound),.d (cI y4.1.source),.d (cI y4.1.serial)]],[]⟩) (fun s=>f_w21_EnrichFields_j1 v0 v1 v2 y4 s=some r) ?_ ?_
   ·rintro v9j1 H
    replace H:f_w21_EnrichFields_j1 v0 v1 v2 y4 v9j1=some r:=H
    unfold f_w21_EnrichFields_j1 at H
    obtain ⟨y6,hy6,H⟩:=bind_some' H
    obtain ⟨y7,hy7,H⟩:=bind_some' H
    obtain ⟨y8,hy8,H⟩:=bind_some' H
    obtain ⟨y9,hy9,H⟩:=bind_some' H
    refine .A 65 [.d (.tup [cI y6.1,cB y6.2]),.d (.tup [.agg (Sub.row y7.1),cB y7.2]),.r 2,.p 33,.d (.agg (Record.row y8)),.b (eqVs (Record.vals y8) (Record.vals v1)),.b y9] rfl ⟨rfl,fun hg=>g_call (en 56 rfl) rfl rfl (c_f_w21_awake (gcall_some hy9 hg)),rfl,fun hg=>OpQ.g (q_steql fk_24 rfl rfl (xs:=Record.vals y8) (ys:=Record.vals v1) rfl rfl rfl rfl),rfl,rfl,fun hg=>g_call (en 59 rfl) rfl rfl (c_f_r21_Record (gcall_some hy8 hg)),rfl,rfl,rfl,rfl,rfl,rfl,rfl,rfl,rfl,rfl,rfl,rfl,rfl,rfl,rfl,(show drawB _ _=true by kernel_rfl),g_call (en 53 rfl) rfl rfl (c_f_r17_Sub (hy7)),g_call (en 52 rfl) rfl rfl (c_f_r18_Owner (hy6))⟩ ?_
    refine .R func4 results4 rfl ?_
    cases H
    exact .m rfl (.rfl' _)
   ·intro hj1
    refine .A 5 [] rfl trivial ?_
    refine .ite H rfl (fun H=>?_) (fun H=>?_)
    ·refine .A 5 [] rfl trivial ?_
     exact .z (hj1 v1.b H) rfl rfl
    ·refine .A 1 [] rfl trivial ?_
     exact .z (hj1 v1.a H) rfl rfl
end Go.Proofs.YtnjdcednocmcnaaDoor
namespace Go.Proofs.YtnjdcednocmcnaaDoor
open Go.RowKit Go.Abs
theorem gcall_mk {α:Type} [Inhabited α] {b:Bool} {x:α}:gcall b (some x)=some (if b=true then x else default):=by
 unfold gcall; split <;> rfl
theorem loop_all {α R:Type} [Inhabited α] {step:Int→Option (Int ⊕ R)} (l:List α) (p:α→Bool) (fin bad:R) (hl:l.length < 18446744073709551616)
  (h1:∀ i:Int,0≤i→i < (l.length:Int)→step i=some (if p (nth l i.toNat)=true then .inl (i+1) else .inr bad)) (h2:∀ i:Int,i=(l.length:Int)→step i=some (.inr fin)):loop step 0=some (if l.all p=true then fin else bad):=by
 have:=loop_spec (step:=step) (fun i:Int=>some (if (l.drop i.toNat).all p=true then fin else bad)) (fun i=>0≤i∧i≤(l.length:Int)) (fun i=>((l.length:Int) - i).toNat) (fun i hI=>by
  by_cases hi:i < (l.length:Int)
  ·have hd:=drop_nth (l:=l) (k:=i.toNat) (by omega)
   rw [h1 i hI.1 hi]
   by_cases hp:p (nth l i.toNat)=true
   ·rw [if_pos hp]
    refine .inr ⟨i+1,rfl,⟨by omega,by omega⟩,by omega,?_⟩
    rw [show (i+1).toNat=i.toNat+1 from by omega,hd]
    simp [hp]
   ·rw [if_neg hp]
    refine .inl ⟨bad,rfl,?_⟩
    rw [hd]
    simp [hp]
  ·have:i=(l.length:Int):=by omega
   refine .inl ⟨fin,h2 i this,?_⟩
   rw [List.drop_of_length_le (by omega)]
   simp) (s:=0) ⟨by omega,by omega⟩ (by omega)
 simpa using this
def isDig (c:UInt8):Bool:=decide (48≤c) && decide (c≤57)
def validB (s:List UInt8):Bool:=s.all isDig && decide (1≤s.length) && decide (s.length≤15)
theorem p_Valid (s:List UInt8) (hl:s.length < 1000000000):f_digits_Valid s=some (validB s):=by
 unfold f_digits_Valid
 rw [loop_all s isDig (decide ((s.length:Int)≥1) && decide ((s.length:Int)≤15)) false (by omega) (fun i h0 h1=>?_) (fun i hi=>?_)]
 ·unfold validB
  cases s.all isDig <;> simp
  rw [Bool.eq_iff_iff]; simp; omega
 ·unfold f_digits_Valid_l1 f_digits_digit
  rw [if_pos (by simpa using h1),ck_pos (by omega)]
  simp only [Option.bind_some]
  rw [ck_pos (by omega)]
  unfold isDig
  simp only [ge_iff_le]
  cases decide (48≤nth s i.toNat) <;> cases decide (nth s i.toNat≤57) <;> rfl
 ·unfold f_digits_Valid_l1 f_digits_Valid_j1
  rw [if_neg (by simp; omega)]
  rfl
theorem p_rValid (s:List UInt8) (hl:s.length < 1000000000):f_r02_Valid s=some (validB s):=by
 unfold f_r02_Valid
 rw [loop_all s isDig (decide ((s.length:Int)≥1) && decide ((s.length:Int)≤15)) false (by omega) (fun i h0 h1=>?_) (fun i hi=>?_)]
 ·unfold validB
  cases s.all isDig <;> simp
  rw [Bool.eq_iff_iff]; simp; omega
 ·unfold f_r02_Valid_l1
  rw [if_pos (by simpa using h1),ck_pos (by omega),ck_pos (by omega),ck_pos (by omega)]
  unfold isDig
  have e1:decide (nth s i.toNat < 48)=!decide (48≤nth s i.toNat):=by rw [←decide_not]; simp
  have e2:decide (nth s i.toNat > 57)=!decide (nth s i.toNat≤57):=by rw [←decide_not]; simp
  rw [e1,e2]
  cases decide (48≤nth s i.toNat) <;> cases decide (nth s i.toNat≤57) <;> rfl
 ·unfold f_r02_Valid_l1 f_r02_Valid_j1
  rw [if_neg (by simp; omega)]
  rfl
def errF (r:Record):Int :=
 if ¬(1≤r.source∧r.source≤99∧1≤r.serial∧r.serial≤999999999) then 6
 else if ¬(1≤r.kind∧r.kind≤4) then 7
 else if validB r.a=false∨(validB r.b=false∧¬((r.kind=3∨r.kind=4)∧r.b=[])) then 12
 else if ¬(0≤r.start∧r.start≤12622780799) then 15
 else if ¬(0≤r.units∧r.units≤1099511627776)∨(r.kind=1∧r.units > 604800) then 6
 else if r.kind=1∧r.start+r.units > 12622780800 then 15
 else if ¬(0≤r.call∧r.call≤999999999∧0≤r.part∧r.part≤99) then 6
 else if ¬(r.part=0↔r.call=0)∨(r.last=true∧r.part=0) then 8
 else if ¬(0≤r.trunk∧r.trunk≤999) then 6
 else if r.inbound=true∧r.trunk=0 then 8
 else 0
theorem ite_same {α:Type} {b:Bool} {p:Prop} [Decidable p] {x y x' y':α} (h:b=true↔p) (hx:p→x=x') (hy:¬p→y=y'):(if b=true then x else y)=if p then x' else y':=by
 by_cases hp:p
 ·rw [if_pos hp,if_pos (h.2 hp),hx hp]
 ·rw [if_neg hp,if_neg (fun hb=>hp (h.1 hb)),hy hp]
theorem ite_some {α:Type} {p:Prop} [Decidable p] {x y:α}:(if p then some x else some y)=some (if p then x else y):=by split <;> rfl
theorem p_check (r:Record) (ha:r.a.length < 1000000000) (hb:r.b.length < 1000000000):f_textual_check r=some (errF r):=by
 have key:∀ m,(m=1099511627776∧r.kind≠1)∨(m=604800∧r.kind=1)→f_textual_check_j1 r m=some (errF r):=by
  intro m hm
  unfold f_textual_check_j1 errF
  simp only [f_textual_within,p_Valid _ ha,p_Valid _ hb,Option.bind_some,gcall_mk]
  simp only [←ite_some]
  refine ite_same (by simp; grind) (fun _=>rfl) (fun h1=>?_)
  refine ite_same (by simp; grind) (fun _=>rfl) (fun h2=>?_)
  refine ite_same (by simp; grind) (fun _=>rfl) (fun h3=>?_)
  refine ite_same (by simp; grind) (fun _=>rfl) (fun h4=>?_)
  refine ite_same (by simp; grind) (fun _=>rfl) (fun h5=>?_)
  rw [ck_pos (by omega)]
  refine ite_same (by simp) (fun _=>rfl) (fun h6=>?_)
  refine ite_same (by simp; grind) (fun _=>rfl) (fun h7=>?_)
  refine ite_same (by simp; grind) (fun _=>rfl) (fun h8=>?_)
  refine ite_same (by simp; grind) (fun _=>rfl) (fun h9=>?_)
  refine ite_same (by simp) (fun _=>rfl) (fun h10=>rfl)
 unfold f_textual_check
 split
 ·rename_i h
  exact key _ (.inr ⟨rfl,by simpa using h⟩)
 ·rename_i h
  exact key _ (.inl ⟨rfl,by simpa using h⟩)
structure Good (r:Record):Prop where
 source:1≤r.source∧r.source≤99
 serial:1≤r.serial∧r.serial≤999999999
 kind:1≤r.kind∧r.kind≤4
 a:validB r.a=true
 b:validB r.b=true∨(r.kind=3∨r.kind=4)∧r.b=[]
 start:0≤r.start∧r.start≤12622780799
 units:0≤r.units∧r.units≤1099511627776
 call:0≤r.call∧r.call≤999999999
 part:0≤r.part∧r.part≤99
 trunk:0≤r.trunk∧r.trunk≤999
theorem errF_good {r:Record} (h:errF r=0):Good r:=by
 unfold errF at h
 split at h; · cases h
 split at h; · cases h
 split at h; · cases h
 split at h; · cases h
 split at h; · cases h
 split at h; · cases h
 split at h; · cases h
 split at h; · cases h
 split at h; · cases h
 split at h; · cases h
 rename_i h1 h2 h3 h4 h5 h6 h7 h8 h9 h10
 refine ⟨by omega,by omega,by omega,?_,?_,by omega,by omega,by omega,by omega,by omega⟩
 ·cases hv:validB r.a with
  | true=>rfl
  | false=>exact absurd (.inl hv) h3
 ·cases hv:validB r.b with
  | true=>exact .inl rfl
  | false =>
   right
   by_cases hh:(r.kind=3∨r.kind=4)∧r.b=[]
   ·exact hh
   ·exact absurd (.inr ⟨hv,hh⟩) h3
theorem validB_len {s:List UInt8} (h:validB s=true):s.length≤15:=by
 unfold validB at h
 simp at h
 exact h.2
def headF (r:Record):List (List UInt8):=[(([118,116,100,99]:List UInt8).take r.kind.toNat).drop (r.kind-1).toNat,Go.Lib.itoa r.source,Go.Lib.itoa r.serial,r.a,if r.b=[] then [45] else r.b,Go.Lib.itoa r.start,Go.Lib.itoa r.units]
def partF (r:Record):List (List UInt8):=if r.part=0 then [] else [[112,97,114,116],Go.Lib.itoa r.call,Go.Lib.itoa r.part]++if r.last=true then [[108,97,115,116]] else []
def trunkF (r:Record):List (List UInt8):=if r.trunk=0 then [] else [if r.inbound=true then [105,110] else [111,117,116],Go.Lib.itoa r.trunk]
def wordsF (r:Record):List (List UInt8):=headF r++partF r++trunkF r
def lineF (r:Record):List UInt8:=Go.Lib.join (wordsF r) [32]
theorem join_len (sep:List UInt8) (xs:List (List UInt8)) (m:Nat) (h:∀ x,x∈xs→x.length≤m):(Go.Lib.join xs sep).length≤xs.length*(m+sep.length):=by
 cases xs with
 | nil=>simp [Go.Lib.join]
 | cons x r =>
  rw [Go.Lib.join_cons]
  have h1:∀ (r:List (List UInt8)),(∀ x,x∈r→x.length≤m)→(Go.Lib.joinTail sep r).length≤r.length*(m+sep.length):=by
   intro r
   induction r with
   | nil=>simp [Go.Lib.joinTail]
   | cons y r ih =>
    intro hr
    have:=ih fun z hz=>hr z (List.mem_cons_of_mem _ hz)
    have h2:=hr y List.mem_cons_self
    simp only [Go.Lib.joinTail,List.map_cons,List.flatten_cons,List.length_append,List.length_cons,Nat.add_mul] at *
    omega
  have h3:=h1 r fun z hz=>h z (List.mem_cons_of_mem _ hz)
  have h4:=h x List.mem_cons_self
  simp only [List.length_append,List.length_cons,Nat.add_mul] at *
  omega
theorem itoa_le {n:Int} (h0:0≤n) (h1:n≤9223372036854775807):(Go.Lib.itoa n).length≤21:=Go.Lib.itoa_length_le n (by omega) h1
theorem words_le {r:Record} (g:Good r):(wordsF r).length≤13∧∀ x,x∈wordsF r→x.length≤21:=by
 have ha:=validB_len g.a
 have hb:r.b.length≤15:=by
  rcases g.b with h | h
  ·exact validB_len h
  ·rw [h.2]; simp
 obtain ⟨gs,ge,gk,_,_,gst,gu,gc,gp,gt⟩:=g
 refine ⟨?_,fun x hx=>?_⟩
 ·have h1:(partF r).length≤4:=by unfold partF; split; simp; split <;> simp
  have h2:(trunkF r).length≤2:=by unfold trunkF; split <;> simp
  have h3:(headF r).length=7:=rfl
  simp only [wordsF,List.length_append]; omega
 ·unfold wordsF at hx
  rcases List.mem_append.1 hx with hx | hx
  ·rcases List.mem_append.1 hx with hx | hx
   ·unfold headF at hx
    simp only [List.mem_cons,List.not_mem_nil,or_false] at hx
    rcases hx with rfl | rfl | rfl | rfl | rfl | rfl | rfl
    ·simp; omega
    ·exact itoa_le (by omega) (by omega)
    ·exact itoa_le (by omega) (by omega)
    ·omega
    ·split
     ·simp
     ·omega
    ·exact itoa_le (by omega) (by omega)
    ·exact itoa_le (by omega) (by omega)
   ·unfold partF at hx
    split at hx
    ·cases hx
    ·rcases List.mem_append.1 hx with hx | hx
     ·simp only [List.mem_cons,List.not_mem_nil,or_false] at hx
      rcases hx with rfl | rfl | rfl
      ·simp
      ·exact itoa_le (by omega) (by omega)
      ·exact itoa_le (by omega) (by omega)
     ·split at hx
      ·simp only [List.mem_cons,List.not_mem_nil,or_false] at hx
       subst hx; simp
      ·cases hx
  ·unfold trunkF at hx
   split at hx
   ·cases hx
   ·simp only [List.mem_cons,List.not_mem_nil,or_false] at hx
    rcases hx with rfl | rfl
    ·split <;> simp
    ·exact itoa_le (by omega) (by omega)
theorem p_Itoa {n:Int} (h0:0≤n) (h1:n≤9223372036854775807):x_Itoa n=some (Go.Lib.itoa n):=by
 unfold x_Itoa; rw [ck_pos (by omega)]
theorem p_Encode_ok (r:Record) (h:errF r=0):f_textual_Encode r=some (lineF r,0):=by
 have g:=errF_good h
 have ha:=validB_len g.a
 have hb:r.b.length≤15:=by
  rcases g.b with h | h
  ·exact validB_len h
  ·rw [h.2]; simp
 have hj3:∀ ws,ws=wordsF r→f_textual_Encode_j3 ws=some (lineF r,0):=by
  rintro ws rfl
  unfold f_textual_Encode_j3 x_Join
  obtain ⟨w1,w2⟩:=words_le g
  have:=join_len [32] (wordsF r) 21 w2
  simp only [List.length_cons,List.length_nil] at this
  have h3:(wordsF r).length*22≤13*22:=Nat.mul_le_mul_right _ w1
  rw [ck_pos ⟨by omega,by omega⟩]
  rfl
 have hj2:∀ ws,ws=headF r++partF r→ws.length≤11→f_textual_Encode_j2 r ws=some (lineF r,0):=by
  intro ws hw hl
  unfold f_textual_Encode_j2
  by_cases ht:r.trunk=0
  ·rw [if_neg (by simp [ht])]
   exact hj3 _ (by rw [hw,wordsF,trunkF,if_pos ht]; simp)
  ·rw [if_pos (by simp [ht])]
   unfold f_textual_Encode_j4
   rw [p_Itoa g.trunk.1 (by have:=g.trunk.2; omega)]
   simp only [Option.bind_some]
   split
   ·rename_i hi
    rw [ck_pos (by simp; omega)]
    exact hj3 _ (by rw [hw,wordsF,trunkF,if_neg ht,if_pos hi])
   ·rename_i hi
    rw [ck_pos (by simp; omega)]
    exact hj3 _ (by rw [hw,wordsF,trunkF,if_neg ht,if_neg hi])
 have hj1:∀ b,b=(if r.b=[] then [45] else r.b)→f_textual_Encode_j1 r b=some (lineF r,0):=by
  rintro b rfl
  unfold f_textual_Encode_j1
  have gk:=g.kind
  rw [ck_pos (by omega),ck_pos (by simp; omega),p_Itoa (by have:=g.source; omega) (by have:=g.source; omega),p_Itoa (by have:=g.serial; omega) (by have:=g.serial; omega),p_Itoa g.start.1 (by have:=g.start; omega),p_Itoa g.units.1 (by have:=g.units; omega)]
  simp only [Option.bind_some]
  by_cases hp:r.part=0
  ·rw [if_neg (by simp [hp])]
   exact hj2 _ (by rw [partF,if_pos hp]; simp [headF]) (by simp)
  ·rw [if_pos (by simp [hp]),p_Itoa g.call.1 (by have:=g.call; omega),p_Itoa g.part.1 (by have:=g.part; omega)]
   simp only [Option.bind_some]
   rw [ck_pos (by simp)]
   split
   ·rename_i hl
    rw [ck_pos (by simp)]
    exact hj2 _ (by rw [partF,if_neg hp,if_pos hl]; simp [headF]) (by simp)
   ·rename_i hl
    exact hj2 _ (by rw [partF,if_neg hp,if_neg hl]; simp [headF]) (by simp)
 unfold f_textual_Encode
 rw [p_check r (by omega) (by omega),h]
 simp only [Option.bind_some]
 rw [if_neg (by simp)]
 split
 ·rename_i hb0
  exact hj1 _ (by rw [if_pos (by simpa using hb0)])
 ·rename_i hb0
  exact hj1 _ (by rw [if_neg (by simpa using hb0)])
theorem p_Encode (r:Record) (ha:r.a.length < 1000000000) (hb:r.b.length < 1000000000):f_textual_Encode r=some (if errF r=0 then lineF r else [],errF r):=by
 by_cases h:errF r=0
 ·rw [p_Encode_ok r h,if_pos h,h]
 ·unfold f_textual_Encode
  rw [p_check r ha hb,if_neg h]
  simp only [Option.bind_some]
  rw [if_pos (by simpa using h)]
theorem loop_rec {S R α:Type} [Inhabited α] {step:S→Option (S ⊕ R)} (l:List α) (idx:S→Int) (F:S→List α→Option R) (I:S→List α→Prop) (hl:l.length < 1000000000)
  (h0:∀ s,I s []→idx s=(l.length:Int)→∃ r,step s=some (.inr r)∧F s []=some r)
  (h1:∀ s a t,I s (a :: t)→0≤idx s→idx s < (l.length:Int)→nth l (idx s).toNat=a→idx s+1+(t.length:Int)=(l.length:Int) →
   (∃ r,step s=some (.inr r)∧F s (a :: t)=some r)∨∃ s',step s=some (.inl s')∧I s' t∧idx s'=idx s+1∧F s' t=F s (a :: t))
  {s:S} (hi:0≤idx s∧idx s≤(l.length:Int)) (hI:I s (l.drop (idx s).toNat)):loop step s=F s (l.drop (idx s).toNat):=by
 refine loop_spec (step:=step) (fun s=>F s (l.drop (idx s).toNat)) (fun s=>(0≤idx s∧idx s≤(l.length:Int))∧I s (l.drop (idx s).toNat)) (fun s=>((l.length:Int) - idx s).toNat) (fun s hs=>?_) ⟨hi,hI⟩ (by omega)
 obtain ⟨⟨b0,b1⟩,hs⟩:=hs
 by_cases hlt:idx s < (l.length:Int)
 ·have hd:=drop_nth (l:=l) (k:=(idx s).toNat) (by omega)
  rw [hd] at hs ⊢
  rcases h1 s _ _ hs b0 hlt rfl (by rw [List.length_drop]; omega) with ⟨r,e1,e2⟩ | ⟨s',e1,e2,e3,e4⟩
  ·exact .inl ⟨r,e1,e2⟩
  ·refine .inr ⟨s',e1,⟨by omega,?_⟩,by omega,?_⟩
   ·rw [e3,show (idx s+1).toNat=(idx s).toNat+1 from by omega]; exact e2
   ·rw [e3,show (idx s+1).toNat=(idx s).toNat+1 from by omega]; exact e4
 ·have he:idx s=(l.length:Int):=by omega
  rw [List.drop_of_length_le (by omega)] at hs ⊢
  exact .inl (h0 s hs he)
theorem loop_rec0 {S R α:Type} [Inhabited α] {step:S→Option (S ⊕ R)} (l:List α) (idx:S→Int) (F:S→List α→Option R) (I:S→List α→Prop) (hl:l.length < 1000000000)
  (h0:∀ s,I s []→idx s=(l.length:Int)→∃ r,step s=some (.inr r)∧F s []=some r)
  (h1:∀ s a t,I s (a :: t)→0≤idx s→idx s < (l.length:Int)→nth l (idx s).toNat=a→idx s+1+(t.length:Int)=(l.length:Int) →
   (∃ r,step s=some (.inr r)∧F s (a :: t)=some r)∨∃ s',step s=some (.inl s')∧I s' t∧idx s'=idx s+1∧F s' t=F s (a :: t))
  {s:S} (hi:idx s=0) (hI:I s l):loop step s=F s l:=by
 have:=loop_rec l idx F I hl h0 h1 (s:=s) ⟨by omega,by omega⟩ (by rw [hi]; exact hI)
 rw [hi] at this
 exact this
def Sm (r:Record):Prop:=r.a.length≤200∧r.b.length≤200
instance (r:Record):Decidable (Sm r):=by unfold Sm; infer_instance
theorem p_Check (r:Record) (h:Sm r):f_validate_Check r=some (errF r):=by
 unfold f_validate_Check
 unfold Sm at h
 rw [p_Encode r (by omega) (by omega)]; rfl
theorem nth_mem {α:Type} [Inhabited α] {l:List α} {k:Nat} (h:k < l.length):nth l k∈l:=by rw [nth_eq h]; exact List.getElem_mem h
theorem nth_cons_succ {α:Type} [Inhabited α] {a:α} {t:List α} {j:Nat}:nth (a :: t) (j+1)=nth t j:=by simp [nth]
theorem nth_cons_zero {α:Type} [Inhabited α] {a:α} {t:List α}:nth (a :: t) 0=a:=by simp [nth]
def plcF {α:Type} (lt:α→α→Bool) (x:α):List α→List α
 | []=>[x]
 | y :: t=>if lt y x=true then y :: plcF lt x t else x :: y :: t
theorem plc_len {α:Type} (lt:α→α→Bool) (x:α):∀ (l:List α),(plcF lt x l).length=l.length+1
 | []=>rfl
 | y :: t=>by
  unfold plcF
  split
  ·rw [List.length_cons,plc_len lt x t,List.length_cons]
  ·rfl
theorem plc_mem {α:Type} (lt:α→α→Bool) (x:α):∀ (l:List α) (z:α),z∈plcF lt x l↔z=x∨z∈l
 | [],z=>by simp [plcF]
 | y :: t,z=>by
  unfold plcF
  split
  ·rw [List.mem_cons,plc_mem lt x t z,List.mem_cons]
   constructor
   ·rintro (h | h | h)
    ·exact .inr (.inl h)
    ·exact .inl h
    ·exact .inr (.inr h)
   ·rintro (h | h | h)
    ·exact .inr (.inl h)
    ·exact .inl h
    ·exact .inr (.inr h)
  ·rw [List.mem_cons]
theorem plc_loop {α:Type} [Inhabited α] {step:Int→Option (Int ⊕ List α)} (l:List α) (x:α) (lt:α→α→Bool) (hl:l.length≤100000)
  (h:∀ i:Int,0≤i→i≤(l.length:Int)→step i=if i < (l.length:Int)∧lt (nth l i.toNat) x=true then some (.inl (i+1)) else some (.inr ((l.take i.toNat++[x])++l.drop i.toNat))):loop step 0=some (plcF lt x l):=by
 have:=loop_rec0 (step:=step) l (fun i:Int=>i) (fun i t=>some (l.take i.toNat++plcF lt x t)) (fun i t=>l.drop i.toNat=t∧0≤i) (by omega) ?_ ?_ (s:=0) rfl ⟨by simp,by omega⟩
 ·rw [this]; simp
 ·rintro i ⟨h1,h2⟩ h3
  refine ⟨(l.take i.toNat++[x])++l.drop i.toNat,?_,?_⟩
  ·rw [h i h2 (by omega),if_neg (by omega)]
  ·rw [h1]; simp [plcF]
 ·rintro i a t ⟨h1,h2⟩ h3 h4 h5 h6
  by_cases hlt:lt a x=true
  ·refine .inr ⟨i+1,?_,⟨?_,by omega⟩,rfl,?_⟩
   ·rw [h i h2 (by omega),if_pos ⟨h4,by rw [h5]; exact hlt⟩]
   ·rw [show (i+1).toNat=i.toNat+1 from by omega,←List.drop_drop,h1]; rfl
   ·rw [show (i+1).toNat=i.toNat+1 from by omega,take_nth (by omega),h5]
    simp [plcF,hlt]
  ·refine .inl ⟨(l.take i.toNat++[x])++l.drop i.toNat,?_,?_⟩
   ·rw [h i h2 (by omega),if_neg (by rw [h5]; exact fun k=>hlt k.2)]
   ·rw [h1]; simp [plcF,hlt]
def ltI (a b:Int):Bool:=decide (a < b)
theorem p_placeI (l:List Int) (x:Int) (hl:l.length≤100000):f_customer_place_int l x=some (plcF ltI x l):=by
 unfold f_customer_place_int
 refine plc_loop l x ltI hl fun i h0 h1=>?_
 unfold f_customer_place_int_l1
 rw [ck_pos (fun k=>⟨h0,by simpa using k⟩)]
 have hj:f_customer_place_int_j1 l x i=some ((l.take i.toNat++[x])++l.drop i.toNat):=by
  unfold f_customer_place_int_j1
  have e1:(l.take i.toNat).length≤l.length:=List.length_take_le' ..
  have e2:(l.drop i.toNat).length≤l.length:=by rw [List.length_drop]; omega
  rw [ck_pos ⟨h0,h1⟩,ck_pos (by omega),ck_pos (by rw [List.length_singleton]; omega),ck_pos ⟨h0,h1⟩,ck_pos (by rw [List.length_append,List.length_singleton]; omega)]
 rw [hj]
 by_cases hc:i < (l.length:Int)∧ltI (nth l i.toNat) x=true
 ·rw [if_pos hc,if_pos (by simp only [Bool.and_eq_true,decide_eq_true_eq]; exact ⟨hc.1,by simpa [ltI] using hc.2⟩),ck_pos ⟨by omega,by omega⟩]
 ·rw [if_neg hc,if_neg (fun k=>hc (by simp only [Bool.and_eq_true,decide_eq_true_eq] at k; exact ⟨k.1,by simpa [ltI] using k.2⟩))]; rfl
theorem p_placeS (l:List (List UInt8)) (x:List UInt8) (hl:l.length≤100000):f_customer_place_string l x=some (plcF strlss x l):=by
 unfold f_customer_place_string
 refine plc_loop l x strlss hl fun i h0 h1=>?_
 unfold f_customer_place_string_l1
 rw [ck_pos (fun k=>⟨h0,by simpa using k⟩)]
 have hj:f_customer_place_string_j1 l x i=some ((l.take i.toNat++[x])++l.drop i.toNat):=by
  unfold f_customer_place_string_j1
  have e1:(l.take i.toNat).length≤l.length:=List.length_take_le' ..
  have e2:(l.drop i.toNat).length≤l.length:=by rw [List.length_drop]; omega
  rw [ck_pos ⟨h0,h1⟩,ck_pos (by omega),ck_pos (by rw [List.length_singleton]; omega),ck_pos ⟨h0,h1⟩,ck_pos (by rw [List.length_append,List.length_singleton]; omega)]
 rw [hj]
 by_cases hc:i < (l.length:Int)∧strlss (nth l i.toNat) x=true
 ·rw [if_pos hc,if_pos (by simp only [Bool.and_eq_true,decide_eq_true_eq]; exact hc),ck_pos ⟨by omega,by omega⟩]
 ·rw [if_neg hc,if_neg (fun k=>hc (by simpa only [Bool.and_eq_true,decide_eq_true_eq] using k))]; rfl
theorem p_With (l:List (List UInt8)) (x:List UInt8) (hl:l.length≤100000):f_r17_With l x=some (plcF strlss x l):=by
 unfold f_r17_With
 refine plc_loop l x strlss hl fun i h0 h1=>?_
 unfold f_r17_With_l1
 rw [ck_pos (fun k=>⟨h0,by simpa using k⟩)]
 have hj:f_r17_With_j1 l x i=some ((l.take i.toNat++[x])++l.drop i.toNat):=by
  unfold f_r17_With_j1
  have e1:(l.take i.toNat).length≤l.length:=List.length_take_le' ..
  have e2:(l.drop i.toNat).length≤l.length:=by rw [List.length_drop]; omega
  simp only [List.nil_append,List.length_nil,Nat.zero_add]
  rw [ck_pos ⟨h0,h1⟩,ck_pos (by omega),ck_pos (by rw [List.length_singleton]; omega),ck_pos ⟨h0,h1⟩,ck_pos (by rw [List.length_append,List.length_singleton]; omega)]
 rw [hj]
 by_cases hc:i < (l.length:Int)∧strlss (nth l i.toNat) x=true
 ·rw [if_pos hc,if_pos (by simp only [Bool.and_eq_true,decide_eq_true_eq]; exact hc),ck_pos ⟨by omega,by omega⟩]
 ·rw [if_neg hc,if_neg (fun k=>hc (by simpa only [Bool.and_eq_true,decide_eq_true_eq] using k))]; rfl
def remF (x:List UInt8) (l:List (List UInt8)):List (List UInt8):=l.filter (· != x)
theorem rem_loop {step:List (List UInt8)×Int→Option ((List (List UInt8)×Int) ⊕ List (List UInt8))} (l:List (List UInt8)) (x:List UInt8) (hl:l.length≤100000)
  (h:∀ (o:List (List UInt8)) (i:Int),0≤i→i≤(l.length:Int)→(o.length:Int)≤i→step (o,i)=if i < (l.length:Int) then some (.inl (if (nth l i.toNat != x)=true then o++[nth l i.toNat] else o,i+1)) else some (.inr o)):loop step ([],0)=some (remF x l):=by
 have:=loop_rec0 (step:=step) l (fun s=>s.2) (fun s t=>some (s.1++remF x t)) (fun s t=>0≤s.2∧s.2≤(l.length:Int)∧(s.1.length:Int)≤s.2) (by omega) ?_ ?_ (s:=([],0)) rfl ⟨by simp,by simp,by simp⟩
 ·rw [this]; simp
 ·rintro ⟨o,i⟩ ⟨h1,h2,h3⟩ h4
  refine ⟨o,?_,?_⟩
  ·rw [h o i h1 h2 h3,if_neg (by simp only at h4; omega)]
  ·simp [remF]
 ·rintro ⟨o,i⟩ a t ⟨h1,h2,h3⟩ h4 h5 h6 h7
  simp only at h1 h2 h3 h4 h5 h6 h7
  refine .inr ⟨(if (nth l i.toNat != x)=true then o++[nth l i.toNat] else o,i+1),?_,⟨by simp only; omega,by simp only; omega,?_⟩,rfl,?_⟩
  ·rw [h o i h1 h2 h3,if_pos h5]
  ·simp only
   split
   ·rw [List.length_append,List.length_singleton]; omega
   ·omega
  ·simp only
   rw [h6]
   unfold remF
   rw [List.filter_cons]
   split <;> simp
theorem p_remove (l:List (List UInt8)) (x:List UInt8) (hl:l.length≤100000):f_customer_remove l x=some (remF x l):=by
 unfold f_customer_remove
 refine rem_loop l x hl fun o i h0 h1 h2=>?_
 unfold f_customer_remove_l1
 by_cases hi:i < (l.length:Int)
 ·rw [if_pos (by simpa using hi),if_pos hi,ck_pos ⟨h0,hi⟩]
  split
  ·rw [ck_pos (by simp only [List.length_singleton]; omega),ck_pos ⟨by omega,by omega⟩]
  ·rw [ck_pos ⟨by omega,by omega⟩]
 ·rw [if_neg (by simpa using hi),if_neg hi]
theorem p_Without (l:List (List UInt8)) (x:List UInt8) (hl:l.length≤100000):f_r17_Without l x=some (remF x l):=by
 unfold f_r17_Without
 refine rem_loop l x hl fun o i h0 h1 h2=>?_
 unfold f_r17_Without_l1
 by_cases hi:i < (l.length:Int)
 ·rw [if_pos (by simpa using hi),if_pos hi,ck_pos ⟨h0,hi⟩]
  split
  ·rw [ck_pos ⟨h0,hi⟩,ck_pos (by simp only [List.length_singleton]; omega),ck_pos ⟨by omega,by omega⟩]
  ·rw [ck_pos ⟨by omega,by omega⟩]
 ·rw [if_neg (by simpa using hi),if_neg hi]
theorem rem_len (x:List UInt8) (l:List (List UInt8)):(remF x l).length≤l.length:=List.length_filter_le ..
abbrev W7:=(List Int)×(List Int)×(List (Int×Account))×(List (Int×Sub))×(List (Int×Bool))×(List ((List UInt8)×Int))×(List (Int×Int))
abbrev noSub:Sub:=⟨0,0,0,([]:List UInt8),([]:List (List UInt8)),([]:List (List UInt8)),false,false⟩
section maps
variable {κ α:Type} [BEq κ] [LawfulBEq κ]
theorem alook_cons (p:κ×α) (l:List (κ×α)) (k:κ):alook (p :: l) k=if k==p.1 then some p.2 else alook l k:=by
 unfold alook
 rw [List.find?_cons]
 split <;> simp_all
theorem afind_cons (p:κ×α) (l:List (κ×α)) (k:κ):afind (p :: l) k=if k==p.1 then some 0 else (afind l k).map (·+1):=by
 unfold afind
 rw [List.findIdx?_cons]
theorem aset_cons (p:κ×α) (l:List (κ×α)) (k:κ) (v:α):aset (p :: l) k v=if k==p.1 then (k,v) :: l else p :: aset l k v:=by
 unfold aset
 rw [afind_cons]
 by_cases h:(k==p.1)=true
 ·rw [if_pos h,if_pos h]; rfl
 ·rw [if_neg h,if_neg h]
  cases afind l k <;> rfl
theorem aerase_cons (p:κ×α) (l:List (κ×α)) (k:κ):aerase (p :: l) k=if k==p.1 then l else p :: aerase l k:=by
 unfold aerase
 rw [afind_cons]
 by_cases h:(k==p.1)=true
 ·rw [if_pos h,if_pos h]; rfl
 ·rw [if_neg h,if_neg h]
  cases afind l k <;> rfl
theorem alook_aset (k:κ) (v:α) (k':κ):∀ (l:List (κ×α)),alook (aset l k v) k'=if k'==k then some v else alook l k'
 | []=>by
  show alook [(k,v)] k'=_
  rw [alook_cons]
 | p :: l=>by
  have ih:=alook_aset k v k' l
  rw [aset_cons]
  by_cases h:(k==p.1)=true
  ·have e:=eq_of_beq h
   rw [if_pos h,alook_cons,alook_cons,←e]
   by_cases h2:(k'==k)=true
   ·rw [if_pos h2,if_pos h2]
   ·rw [if_neg h2,if_neg h2,if_neg h2]
  ·rw [if_neg h,alook_cons,alook_cons,ih]
   by_cases h2:(k'==k)=true
   ·have e:=eq_of_beq h2
    rw [if_pos h2,if_neg (by rw [e]; exact h),if_pos h2]
   ·rw [if_neg h2,if_neg h2]
theorem aset_keys (k:κ) (v:α) (z:κ):∀ (l:List (κ×α)),z∈(aset l k v).map (·.1)↔z=k∨z∈l.map (·.1)
 | []=>by simp [aset,afind]
 | p :: l=>by
  rw [aset_cons]
  split
  ·rename_i h
   have e:=eq_of_beq h
   simp [e]
  ·rw [List.map_cons,List.mem_cons,aset_keys k v z l,List.map_cons,List.mem_cons]
   constructor
   ·rintro (h | h | h)
    ·exact .inr (.inl h)
    ·exact .inl h
    ·exact .inr (.inr h)
   ·rintro (h | h | h)
    ·exact .inr (.inl h)
    ·exact .inl h
    ·exact .inr (.inr h)
theorem aset_nodup (k:κ) (v:α):∀ {l:List (κ×α)},(l.map (·.1)).Nodup→((aset l k v).map (·.1)).Nodup
 | [],_=>by simp [aset,afind]
 | p :: l,h=>by
  rw [List.map_cons,List.nodup_cons] at h
  rw [aset_cons]
  split
  ·rename_i e
   rw [List.map_cons,List.nodup_cons,show k=p.1 from eq_of_beq e]
   exact h
  ·rename_i e
   rw [List.map_cons,List.nodup_cons]
   refine ⟨fun hm=>?_,aset_nodup k v h.2⟩
   rcases (aset_keys k v p.1 l).1 hm with h1 | h1
   ·exact e (by rw [h1]; exact beq_self_eq_true k)
   ·exact h.1 h1
theorem aerase_sub (k:κ) (z:κ):∀ (l:List (κ×α)),z∈(aerase l k).map (·.1)→z∈l.map (·.1)
 | [],h=>by simp [aerase,afind] at h
 | p :: l,h=>by
  rw [aerase_cons] at h
  split at h
  ·exact List.mem_cons_of_mem _ h
  ·rw [List.map_cons,List.mem_cons] at h ⊢
   exact h.imp id (aerase_sub k z l)
theorem aerase_nodup (k:κ):∀ {l:List (κ×α)},(l.map (·.1)).Nodup→((aerase l k).map (·.1)).Nodup
 | [],_=>by simp [aerase,afind]
 | p :: l,h=>by
  rw [List.map_cons,List.nodup_cons] at h
  rw [aerase_cons]
  split
  ·exact h.2
  ·rw [List.map_cons,List.nodup_cons]
   exact ⟨fun hm=>h.1 (aerase_sub k _ l hm),aerase_nodup k h.2⟩
theorem alook_aerase (k k':κ):∀ {l:List (κ×α)},(l.map (·.1)).Nodup→alook (aerase l k) k'=if k'==k then none else alook l k'
 | [],_=>by
  have:aerase ([]:List (κ×α)) k=[]:=rfl
  rw [this]; unfold alook; simp
 | p :: l,h=>by
  rw [List.map_cons,List.nodup_cons] at h
  rw [aerase_cons]
  by_cases e:(k==p.1)=true
  ·have e':=eq_of_beq e
   rw [if_pos e]
   by_cases h2:(k'==k)=true
   ·rw [if_pos h2,alook_none]
    rw [eq_of_beq h2,e']; exact h.1
   ·rw [if_neg h2,alook_cons,←e',if_neg h2]
  ·rw [if_neg e,alook_cons,alook_cons,alook_aerase k k' h.2]
   by_cases h2:(k'==k)=true
   ·rw [if_pos h2,if_neg (by rw [eq_of_beq h2]; exact e),if_pos h2]
   ·rw [if_neg h2,if_neg h2]
end maps
def apO (e:Event) (w:W7):Option W7:=g_customer_world_apply e w.1 w.2.1 w.2.2.1 w.2.2.2.1 w.2.2.2.2.1 w.2.2.2.2.2.1 w.2.2.2.2.2.2
def chF (s:Sub) (e:Event):Sub :=
 if e.kind=5 then { s with numbers:=plcF strlss e.number s.numbers }
 else if e.kind=6 then { s with numbers:=remF e.number s.numbers }
 else if e.kind=7 then { s with plan:=e.name }
 else if e.kind=8 then { s with products:=plcF strlss e.name s.products }
 else if e.kind=9 then { s with products:=remF e.name s.products }
 else if e.kind=10 then { s with suspended:=true }
 else if e.kind=11 then { s with suspended:=false }
 else if e.kind=12 then { s with family:=true }
 else if e.kind=13 then { s with family:=false }
 else s
def newSub (e:Event):Sub:=⟨e.sub,e.account,e.at_,e.name,[],[],false,false⟩
def addF (e:Event) (w:W7):List Int:=if e.kind=3∧(alook w.2.2.2.2.1 e.sub).getD false=false then plcF ltI e.sub w.2.1 else w.2.1
def evF (e:Event) (w:W7):List (Int×Bool):=if e.kind=3 then aset w.2.2.2.2.1 e.sub true else w.2.2.2.2.1
def subF (e:Event) (w:W7):List (Int×Sub) :=
 if e.kind=3 then aset w.2.2.2.1 e.sub (newSub e)
 else if e.kind=4 then aerase w.2.2.2.1 e.sub
 else if e.kind=1∨e.kind=2∨e.kind=14∨e.kind=15 then w.2.2.2.1
 else match alook w.2.2.2.1 e.sub with
  | some s=>aset w.2.2.2.1 e.sub (chF s e)
  | none=>w.2.2.2.1
structure WB (n:Nat) (w:W7):Prop where
 opened:w.1.length≤n
 added:w.2.1.length≤n
 nums:∀ k s,alook w.2.2.2.1 k=some s→s.numbers.length≤n∧s.products.length≤n
 live:∀ k,-(n:Int)≤(alook w.2.2.2.2.2.2 k).getD 0∧(alook w.2.2.2.2.2.2 k).getD 0≤(n:Int)
 keys:(w.2.2.2.1.map (·.1)).Nodup
theorem WB.up {n:Nat} {w:W7} (h:WB n w):WB (n+1) w:=⟨by have:=h.opened; omega,by have:=h.added; omega,fun k s hs=>by have:=h.nums k s hs; omega,fun k=>by have:=h.live k; omega,h.keys⟩
theorem p_changed (s:Sub) (e:Event) (a b:List Int) (c:List (Int×Account)) (d:List (Int×Sub)) (f:List (Int×Bool)) (o:List ((List UInt8)×Int)) (l:List (Int×Int)) (h1:s.numbers.length≤100000) (h2:s.products.length≤100000) :
  ∃ o',g_customer_world_changed s e a b c d f o l=some (chF s e,o'):=by
 unfold g_customer_world_changed chF
 by_cases k5:e.kind=5
 ·rw [if_pos (by simpa using k5),p_placeS _ _ h1,if_pos k5]; exact ⟨_,rfl⟩
 rw [if_neg (by simpa using k5),if_neg k5]
 by_cases k6:e.kind=6
 ·rw [if_pos (by simpa using k6),p_remove _ _ h1,if_pos k6]; exact ⟨_,rfl⟩
 rw [if_neg (by simpa using k6),if_neg k6]
 by_cases k7:e.kind=7
 ·rw [if_pos (by simpa using k7),if_pos k7]; exact ⟨_,rfl⟩
 rw [if_neg (by simpa using k7),if_neg k7]
 by_cases k8:e.kind=8
 ·rw [if_pos (by simpa using k8),p_placeS _ _ h2,if_pos k8]; exact ⟨_,rfl⟩
 rw [if_neg (by simpa using k8),if_neg k8]
 by_cases k9:e.kind=9
 ·rw [if_pos (by simpa using k9),p_remove _ _ h2,if_pos k9]; exact ⟨_,rfl⟩
 rw [if_neg (by simpa using k9),if_neg k9]
 by_cases k10:e.kind=10
 ·rw [if_pos (by simpa using k10),if_pos k10]; exact ⟨_,rfl⟩
 rw [if_neg (by simpa using k10),if_neg k10]
 by_cases k11:e.kind=11
 ·rw [if_pos (by simpa using k11),if_pos k11]; exact ⟨_,rfl⟩
 rw [if_neg (by simpa using k11),if_neg k11]
 by_cases k12:e.kind=12
 ·rw [if_pos (by simpa using k12),if_pos k12]; exact ⟨_,rfl⟩
 rw [if_neg (by simpa using k12),if_neg k12]
 by_cases k13:e.kind=13
 ·rw [if_pos (by simpa using k13),if_pos k13]; exact ⟨_,rfl⟩
 rw [if_neg (by simpa using k13),if_neg k13]
 exact ⟨_,rfl⟩
theorem chF_len (s:Sub) (e:Event):(chF s e).numbers.length≤s.numbers.length+1∧(chF s e).products.length≤s.products.length+1:=by
 unfold chF
 have a:=plc_len strlss e.number s.numbers
 have b:=plc_len strlss e.name s.products
 have c:=rem_len e.number s.numbers
 have d:=rem_len e.name s.products
 repeat' split
 all_goals first | omega | (simp only; omega)
theorem p_apply (n:Nat) (e:Event) (w:W7) (h:WB n w) (hn:n≤10000):∃ w',apO e w=some w'∧WB (n+1) w'∧w'.2.1=addF e w∧w'.2.2.2.1=subF e w∧w'.2.2.2.2.1=evF e w:=by
 obtain ⟨op,ad,ac,su,ev,ow,li⟩:=w
 have h1:=h.opened
 have h2:=h.added
 have h3:=h.nums
 have h4:=h.live
 have h5:=h.keys
 simp only at h1 h2 h3 h4 h5
 have up:=h.up
 unfold apO addF subF evF
 simp only
 have hu1:=up.opened
 have hu2:=up.added
 have hu3:=up.nums
 have hu4:=up.live
 simp only at hu1 hu2 hu3 hu4
 unfold g_customer_world_apply
 by_cases k1:e.kind=1
 ·have n3:¬e.kind=3:=by omega
  have n4:¬e.kind=4:=by omega
  rw [if_pos (by simpa using k1)]
  simp only [n3,n4,k1,false_and,if_false,true_or,if_true]
  split
  ·rw [p_placeI _ _ (by omega),Option.bind_some]
   unfold g_customer_world_apply_j1
   exact ⟨_,rfl,⟨by simp only [plc_len]; omega,hu2,hu3,hu4,h5⟩,rfl,rfl,rfl⟩
  ·unfold g_customer_world_apply_j1
   exact ⟨_,rfl,⟨hu1,hu2,hu3,hu4,h5⟩,rfl,rfl,rfl⟩
 rw [if_neg (by simpa using k1)]
 by_cases k2:e.kind=2
 ·have n3:¬e.kind=3:=by omega
  have n4:¬e.kind=4:=by omega
  rw [if_pos (by simpa using k2)]
  simp only [n3,n4,k2,false_and,if_false,true_or,or_true,if_true]
  exact ⟨_,rfl,⟨hu1,hu2,hu3,hu4,h5⟩,rfl,rfl,rfl⟩
 rw [if_neg (by simpa using k2)]
 by_cases k3:e.kind=3
 ·rw [if_pos (by simpa using k3)]
  simp only [k3,true_and,if_true]
  have hl:R64 ((alook li e.account).getD 0+1):=by have:=h4 e.account; exact ⟨by omega,by omega⟩
  have live':∀ k,-((n+1:Nat):Int)≤(alook (aset li e.account ((alook li e.account).getD 0+1)) k).getD 0∧(alook (aset li e.account ((alook li e.account).getD 0+1)) k).getD 0≤((n+1:Nat):Int):=fun k=>by
   rw [alook_aset]
   split
   ·have:=h4 e.account
    simp only [Option.getD_some]; omega
   ·exact hu4 k
  have nums':∀ k s,alook (aset su e.sub (⟨e.sub,e.account,e.at_,e.name,([]:List (List UInt8)),([]:List (List UInt8)),false,false⟩:Sub)) k=some s→s.numbers.length≤n+1∧s.products.length≤n+1:=fun k s hs=>by
   rw [alook_aset] at hs
   split at hs
   ·cases hs; simp
   ·exact hu3 k s hs
  by_cases hev:(alook ev e.sub).getD false=false
  ·rw [if_pos (by rw [hev]; rfl),p_placeI _ _ (by omega),Option.bind_some,if_pos hev]
   unfold g_customer_world_apply_j2
   rw [ck_pos hl]
   exact ⟨_,rfl,⟨hu1,by simp only [plc_len]; omega,nums',live',aset_nodup _ _ h5⟩,rfl,rfl,rfl⟩
  ·rw [if_neg (by simpa using hev),if_neg hev]
   unfold g_customer_world_apply_j2
   rw [ck_pos hl]
   exact ⟨_,rfl,⟨hu1,hu2,nums',live',aset_nodup _ _ h5⟩,rfl,rfl,rfl⟩
 rw [if_neg (by simpa using k3)]
 simp only [k3,false_and,if_false]
 by_cases k4:e.kind=4
 ·rw [if_pos (by simpa using k4)]
  simp only [k4,if_true]
  have hnl:((alook su e.sub).getD noSub).numbers.length≤n:=by
   cases hs:alook su e.sub with
   | none=>simp [noSub]
   | some s=>exact (h3 _ _ hs).1
  have key:∀ o,∃ o',loop (fun s:Int×List ((List UInt8)×Int)=>g_customer_world_apply_l1 e op ad ac su ev li s.1 s.2) (0,o)=g_customer_world_apply_j3 e op ad ac su ev li o':=fun o=>by
   refine ⟨((alook su e.sub).getD noSub).numbers.foldl aerase o,?_⟩
   have hF:∀ o,∃ r,g_customer_world_apply_j3 e op ad ac su ev li o=some r:=fun o=>by
    unfold g_customer_world_apply_j3
    have hl:R64 ((alook li ((alook su e.sub).getD noSub).account).getD 0-1):=by have:=h4 ((alook su e.sub).getD noSub).account; exact ⟨by omega,by omega⟩
    rw [ck_pos hl]
    exact ⟨_,rfl⟩
   refine loop_rec0 ((alook su e.sub).getD noSub).numbers (fun s=>s.1) (fun s t=>g_customer_world_apply_j3 e op ad ac su ev li (t.foldl aerase s.2)) (fun s t=>0≤s.1) (by omega) ?_ ?_ (s:=(0,o)) rfl (by simp)
   ·rintro ⟨i,o⟩ hi h6
    simp only at hi h6
    obtain ⟨r,hr⟩:=hF o
    refine ⟨r,?_,hr⟩
    unfold g_customer_world_apply_l1
    simp only
    rw [if_neg (by rw [decide_eq_true_eq]; show ¬ i < (((alook su e.sub).getD noSub).numbers.length:Int); omega),hr]
    rfl
   ·rintro ⟨i,o⟩ a t hi h6 h7 h8 h9
    simp only at hi h6 h7 h8 h9
    refine .inr ⟨(i+1,aerase o a),?_,by simp only; omega,rfl,rfl⟩
    unfold g_customer_world_apply_l1
    simp only
    rw [if_pos (by simpa using h7),ck_pos ⟨h6,h7⟩,ck_pos ⟨by omega,by omega⟩,h8]
  obtain ⟨o',ho⟩:=key ow
  rw [ho]
  unfold g_customer_world_apply_j3
  have hl:R64 ((alook li ((alook su e.sub).getD noSub).account).getD 0-1):=by have:=h4 ((alook su e.sub).getD noSub).account; exact ⟨by omega,by omega⟩
  rw [ck_pos hl]
  refine ⟨_,rfl,⟨hu1,hu2,fun k s hs=>?_,fun k=>?_,aerase_nodup _ h5⟩,rfl,rfl,rfl⟩
  ·simp only at hs
   rw [alook_aerase _ _ h5] at hs
   split at hs
   ·cases hs
   ·exact hu3 k s hs
  ·simp only
   rw [alook_aset]
   split
   ·have:=h4 ((alook su e.sub).getD noSub).account
    simp only [Option.getD_some]
    unfold noSub at this
    omega
   ·exact hu4 k
 rw [if_neg (by simpa using k4)]
 simp only [k4,if_false]
 have hj:∀ b:Bool,(b=true→e.kind=14∨e.kind=15)→(b=false→¬(e.kind=14∨e.kind=15))→∃ w',g_customer_world_apply_j4 e op ad ac su ev ow li b=some w'∧WB (n+1) w'∧w'.2.1=ad∧w'.2.2.2.1=(if e.kind=1∨e.kind=2∨e.kind=14∨e.kind=15 then su else match alook su e.sub with | some s=>aset su e.sub (chF s e) | none=>su)∧w'.2.2.2.2.1=ev:=fun b hb1 hb2=>by
  unfold g_customer_world_apply_j4
  cases b with
  | true=>rw [if_pos rfl,if_pos (.inr (.inr (hb1 rfl)))]; exact ⟨_,rfl,up,rfl,rfl,rfl⟩
  | false =>
   have hr:¬(e.kind=1∨e.kind=2∨e.kind=14∨e.kind=15):=by have:=hb2 rfl; omega
   simp only [hr,if_false,Bool.false_eq_true]
   cases hs:alook su e.sub with
   | none=>simp only [Option.isSome_none,Bool.false_eq_true,if_false]; exact ⟨_,rfl,up,rfl,rfl,rfl⟩
   | some s =>
    simp only [Option.isSome_some,if_true,Option.getD_some]
    have hb:=h3 _ _ hs
    obtain ⟨o',ho⟩:=p_changed s e op ad ac su ev ow li (by omega) (by omega)
    rw [ho,Option.bind_some]
    have hc:=chF_len s e
    refine ⟨_,rfl,⟨hu1,hu2,fun k s' hs'=>?_,hu4,aset_nodup _ _ h5⟩,rfl,rfl,rfl⟩
    simp only at hs'
    rw [alook_aset] at hs'
    split at hs'
    ·cases hs'; omega
    ·exact hu3 k s' hs'
 split
 ·rename_i k14
  refine hj _ (fun _=>.inl (by simpa using k14)) (fun k=>?_)
  rw [k14] at k; cases k
 ·rename_i k14
  have k14':¬e.kind=14:=by simpa using k14
  refine hj _ (fun k=>.inr (by simpa using k)) (fun k=>?_)
  have:¬e.kind=15:=by simpa using k
  omega
def w0:W7:=([],[],[],[],[],[],[])
theorem wb0:WB 0 w0:=⟨by simp [w0],by simp [w0],fun k s h=>by simp [w0,alook] at h,fun k=>by simp [w0,alook],by simp [w0]⟩
def stW (t:Int):List Event→W7→Option W7
 | [],w=>some w
 | e :: l,w=>if e.at_≤t then (apO e w).bind (stW t l) else stW t l w
theorem p_upto (evs:List Event) (t:Int) (n:Nat) (w:W7) (h:WB n w) (hl:n+evs.length≤10000) :
  f_customer_upto_1 evs t w.1 w.2.1 w.2.2.1 w.2.2.2.1 w.2.2.2.2.1 w.2.2.2.2.2.1 w.2.2.2.2.2.2=stW t evs w:=by
 unfold f_customer_upto_1
 refine loop_rec0 evs (fun s:Int×W7=>s.1) (fun s r=>stW t r s.2) (fun s r=>0≤s.1∧∃ n,WB n s.2∧n+r.length≤10000) (by omega) ?_ ?_ (s:=(0,w)) rfl ⟨by simp,n,h,hl⟩
 ·rintro ⟨i,w⟩ ⟨h1,_⟩ h2
  simp only at h1 h2
  refine ⟨w,?_,rfl⟩
  unfold f_customer_upto_1_l1
  rw [if_neg (by simp only [decide_eq_true_eq]; omega)]
 ·rintro ⟨i,w⟩ e r ⟨h1,n,hb,h2⟩ h3 h4 h5 h6
  simp only at h1 h2 h3 h4 h5 h6 hb
  rw [List.length_cons] at h2
  unfold f_customer_upto_1_l1
  simp only
  rw [if_pos (by simpa using h4),ck_pos ⟨h3,h4⟩,h5]
  by_cases ha:e.at_≤t
  ·obtain ⟨w',hw,hb',_⟩:=p_apply n e w hb (by omega)
   have hr:f_customer_State_r e w.1 w.2.1 w.2.2.1 w.2.2.2.1 w.2.2.2.2.1 w.2.2.2.2.2.1 w.2.2.2.2.2.2=some w':=by
    unfold f_customer_State_r
    have:g_customer_world_apply e w.1 w.2.1 w.2.2.1 w.2.2.2.1 w.2.2.2.2.1 w.2.2.2.2.2.1 w.2.2.2.2.2.2=some w':=hw
    rw [this]; rfl
   rw [if_pos (by simpa using ha),hr,Option.bind_some,ck_pos ⟨by omega,by omega⟩]
   refine .inr ⟨(i+1,w'),rfl,⟨by simp only; omega,n+1,hb',by omega⟩,rfl,?_⟩
   simp only
   rw [stW,if_pos ha,hw]; rfl
  ·rw [if_neg (by simpa using ha),ck_pos ⟨by omega,by omega⟩]
   refine .inr ⟨(i+1,w),rfl,⟨by simp only; omega,n,hb,by omega⟩,rfl,?_⟩
   simp only
   rw [stW,if_neg ha]
theorem stW_tot (t:Int):∀ (evs:List Event) (n:Nat) (w:W7),WB n w→n+evs.length≤10000→∃ w',stW t evs w=some w'∧WB (n+evs.length) w'
 | [],n,w,h,_=>⟨w,rfl,h⟩
 | e :: l,n,w,h,hl=>by
  rw [List.length_cons] at hl
  unfold stW
  split
  ·obtain ⟨w',hw,hb',_⟩:=p_apply n e w h (by omega)
   obtain ⟨w2,h1,h2⟩:=stW_tot t l (n+1) w' hb' (by omega)
   refine ⟨w2,by rw [hw]; exact h1,?_⟩
   rw [List.length_cons,show n+(l.length+1)=n+1+l.length from by omega]; exact h2
  ·obtain ⟨w2,h1,h2⟩:=stW_tot t l (n+1) w h.up (by omega)
   refine ⟨w2,h1,?_⟩
   rw [List.length_cons,show n+(l.length+1)=n+1+l.length from by omega]; exact h2
def liveL (w:W7):List Sub:=w.2.1.filterMap (alook w.2.2.2.1)
def ofF (su:List (Int×Sub)):List Int→List (Int×List Int)→List (Int×List Int)
 | [],o=>o
 | k :: t,o=>match alook su k with
  | none=>ofF su t o
  | some s=>ofF su t (aset o s.account ((alook o s.account).getD []++[k]))
theorem p_cust1 (op:List Int) (ac:List (Int×Account)) (L:List Sub) (o:List (Int×List Int)) (hl:op.length≤10000):∃ a,g_customer_world_customers_j1 op ac L o=some ⟨a,L⟩:=by
 unfold g_customer_world_customers_j1
 let f:Int→Account:=fun k=>⟨((alook ac k).getD (⟨0,0,0,false,false,([]:List Int)⟩:Account)).id,((alook ac k).getD (⟨0,0,0,false,false,([]:List Int)⟩:Account)).since,((alook ac k).getD (⟨0,0,0,false,false,([]:List Int)⟩:Account)).anchor,((alook ac k).getD (⟨0,0,0,false,false,([]:List Int)⟩:Account)).prepaid,((alook ac k).getD (⟨0,0,0,false,false,([]:List Int)⟩:Account)).closed,(alook o k).getD ([]:List Int)⟩
 refine ⟨op.map f,?_⟩
 have:=loop_rec0 (step:=fun s:Int×List Account=>g_customer_world_customers_l1 op ac L o s.1 s.2) op (fun s=>s.1) (fun s r=>some (⟨s.2++r.map f,L⟩:Customers)) (fun s r=>0≤s.1∧(s.2.length:Int)≤s.1∧s.1≤(op.length:Int)) (by omega) ?_ ?_ (s:=(0,[])) rfl (by simp)
 ·rw [this]; simp
 ·rintro ⟨i,l⟩ ⟨h1,h2,h3⟩ h4
  simp only at h1 h2 h3 h4
  refine ⟨⟨l,L⟩,?_,by simp⟩
  unfold g_customer_world_customers_l1
  rw [if_neg (by simp only [decide_eq_true_eq]; omega)]
 ·rintro ⟨i,l⟩ k r ⟨h1,h2,h3⟩ h4 h5 h6 h7
  simp only at h1 h2 h3 h4 h5 h6 h7
  refine .inr ⟨(i+1,l++[f k]),?_,⟨by simp only; omega,by simp only [List.length_append,List.length_singleton]; omega,by simp only; omega⟩,rfl,by simp⟩
  unfold g_customer_world_customers_l1
  rw [if_pos (by simpa using h5),ck_pos ⟨h4,h5⟩,ck_pos (by simp only [List.length_singleton]; omega),ck_pos ⟨by omega,by omega⟩,h6]
theorem p_customers (n:Nat) (w:W7) (h:WB n w) (hn:n≤10000):∃ a,g_customer_world_customers w.1 w.2.1 w.2.2.1 w.2.2.2.1 w.2.2.2.2.1 w.2.2.2.2.2.1 w.2.2.2.2.2.2=some ⟨a,liveL w⟩:=by
 obtain ⟨op,ad,ac,su,ev,ow,li⟩:=w
 have h1:=h.opened
 have h2:=h.added
 simp only at h1 h2
 unfold g_customer_world_customers liveL
 simp only
 obtain ⟨a,ha⟩:=p_cust1 op ac (ad.filterMap (alook su)) (ofF su ad []) (by omega)
 refine ⟨a,?_⟩
 have:=loop_rec0 (step:=fun s:Int×List Sub×List (Int×List Int)=>g_customer_world_customers_l2 op ad ac su s.1 s.2.1 s.2.2) ad (fun s=>s.1) (fun s r=>g_customer_world_customers_j1 op ac (s.2.1++r.filterMap (alook su)) (ofF su r s.2.2))
  (fun s r=>0≤s.1∧(s.2.1.length:Int)≤s.1∧s.1≤(ad.length:Int)∧∀ k,(((alook s.2.2 k).getD []).length:Int)≤s.1) (by omega) ?_ ?_ (s:=(0,[],[])) rfl ⟨by simp,by simp,by simp,fun k=>by simp [alook]⟩
 ·rw [this]; simpa using ha
 ·rintro ⟨i,l,o⟩ ⟨h3,h4,h5,h6⟩ h7
  simp only at h3 h4 h5 h6 h7
  obtain ⟨a,ha⟩:=p_cust1 op ac l o (by omega)
  refine ⟨⟨a,l⟩,?_,by simpa [ofF] using ha⟩
  unfold g_customer_world_customers_l2
  rw [if_neg (by simp only [decide_eq_true_eq]; omega),ha]
  rfl
 ·rintro ⟨i,l,o⟩ k r ⟨h3,h4,h5,h6⟩ h7 h8 h9 h10
  simp only at h3 h4 h5 h6 h7 h8 h9 h10
  unfold g_customer_world_customers_l2
  simp only
  rw [if_pos (by simpa using h8),ck_pos ⟨h7,h8⟩,h9]
  cases hs:alook su k with
  | none =>
   refine .inr ⟨(i+1,l,o),?_,⟨by simp only; omega,by simp only; omega,by simp only; omega,fun k=>by have:=h6 k; simp only; omega⟩,rfl,?_⟩
   ·rw [if_pos (by simp),ck_pos ⟨by omega,by omega⟩]
   ·simp only [List.filterMap_cons,hs,ofF]
  | some s =>
   have h6':=h6 s.account
   refine .inr ⟨(i+1,l++[s],aset o s.account ((alook o s.account).getD []++[k])),?_,⟨by simp only; omega,by simp only [List.length_append,List.length_singleton]; omega,by simp only; omega,fun k'=>?_⟩,rfl,?_⟩
   ·rw [if_neg (by simp)]
    simp only [Option.getD_some]
    rw [ck_pos (by simp only [List.length_singleton]; omega),ck_pos (by simp only [List.length_singleton]; omega),ck_pos ⟨by omega,by omega⟩]
   ·simp only
    rw [alook_aset]
    split
    ·simp only [Option.getD_some,List.length_append,List.length_singleton]; omega
    ·have:=h6 k'; omega
   ·simp only [List.filterMap_cons,hs,ofF,List.append_assoc,List.singleton_append]
theorem p_State (evs:List Event) (t:Int) (hl:evs.length≤5000):∃ w a,stW t evs w0=some w∧WB evs.length w∧f_customer_State evs t=some ⟨a,liveL w⟩:=by
 obtain ⟨w,h1,h2⟩:=stW_tot t evs 0 w0 wb0 (by omega)
 rw [Nat.zero_add] at h2
 obtain ⟨a,ha⟩:=p_customers _ w h2 (by omega)
 refine ⟨w,a,h1,h2,?_⟩
 unfold f_customer_State g_customer_begin g_customer_upto
 have:=p_upto evs t 0 w0 wb0 (by omega)
 simp only [Option.bind_some]
 rw [show f_customer_upto_1 evs t ([]:List Int) ([]:List Int) ([]:List (Int×Account)) ([]:List (Int×Sub)) ([]:List (Int×Bool)) ([]:List ((List UInt8)×Int)) ([]:List (Int×Int))=stW t evs w0 from this,h1,Option.bind_some,ha]
 rfl
def owF:List Sub→List ((List UInt8)×Int)→List ((List UInt8)×Int)
 | [],o=>o
 | s :: l,o=>owF l (s.numbers.foldl (fun o n=>aset o n s.id) o)
theorem p_owners (evs:List Event) (t:Int) (c:Customers) (h:f_customer_State evs t=some c) (hl:c.subs.length≤10000) (hn:∀ s,s∈c.subs→s.numbers.length≤10000):g_numbering_owners evs t=some (owF c.subs []):=by
 unfold g_numbering_owners
 rw [h,Option.bind_some]
 refine loop_rec0 (step:=fun s:Int×List ((List UInt8)×Int)=>g_numbering_owners_l1 c s.1 s.2) c.subs (fun s=>s.1) (fun s r=>some (owF r s.2)) (fun s r=>0≤s.1∧∀ x,x∈r→x.numbers.length≤10000) (by omega) ?_ ?_ (s:=(0,[])) rfl ⟨by simp,hn⟩
 ·rintro ⟨i,o⟩ ⟨h1,_⟩ h2
  simp only at h1 h2
  refine ⟨o,?_,rfl⟩
  unfold g_numbering_owners_l1
  rw [if_neg (by simp only [decide_eq_true_eq]; omega)]
 ·rintro ⟨i,o⟩ x r ⟨h1,h2⟩ h3 h4 h5 h6
  simp only at h1 h2 h3 h4 h5 h6
  refine .inr ⟨(i+1,x.numbers.foldl (fun o n=>aset o n x.id) o),?_,⟨by simp only; omega,fun y hy=>h2 y (List.mem_cons_of_mem _ hy)⟩,rfl,rfl⟩
  unfold g_numbering_owners_l1
  rw [if_pos (by simpa using h4),ck_pos ⟨h3,h4⟩]
  have hx:=h2 x (List.mem_cons_self ..)
  refine loop_rec0 (step:=fun s:Int×List ((List UInt8)×Int)=>g_numbering_owners_l2 c i s.1 s.2) x.numbers (fun s=>s.1) (fun s r=>some (.inl (i+1,r.foldl (fun o n=>aset o n x.id) s.2))) (fun s r=>0≤s.1) (by omega) ?_ ?_ (s:=(0,o)) rfl (by simp)
  ·rintro ⟨j,o⟩ h7 h8
   simp only at h7 h8
   refine ⟨_,?_,rfl⟩
   unfold g_numbering_owners_l2
   rw [h5,if_neg (by simp only [decide_eq_true_eq]; omega),ck_pos ⟨by omega,by omega⟩]
   rfl
  ·rintro ⟨j,o⟩ n q h7 h8 h9 h10 h11
   simp only at h7 h8 h9 h10 h11
   refine .inr ⟨(j+1,aset o n x.id),?_,by simp only; omega,rfl,rfl⟩
   unfold g_numbering_owners_l2
   rw [h5,if_pos (by simpa using h9),ck_pos ⟨h8,h9⟩,ck_pos ⟨by omega,by omega⟩,h10]
def fstS (id:Int):List Sub→Sub×Bool
 | []=>(noSub,false)
 | s :: l=>if s.id=id then (s,true) else fstS id l
theorem p_Sub (evs:List Event) (id t:Int) (c:Customers) (h:f_customer_State evs t=some c) (hl:c.subs.length≤10000):f_customer_Sub evs id t=some (fstS id c.subs):=by
 unfold f_customer_Sub
 rw [h,Option.bind_some]
 refine loop_rec0 (step:=fun s:Int=>f_customer_Sub_l1 id c s) c.subs (fun s=>s) (fun s r=>some (fstS id r)) (fun s r=>0≤s) (by omega) ?_ ?_ (s:=0) rfl (by simp)
 ·rintro i h1 h2
  refine ⟨_,?_,rfl⟩
  unfold f_customer_Sub_l1
  rw [if_neg (by simp only [decide_eq_true_eq]; omega)]
  rfl
 ·rintro i x r h1 h2 h3 h4 h5
  unfold f_customer_Sub_l1
  rw [if_pos (by simpa using h3),ck_pos ⟨h2,h3⟩,h4]
  by_cases hx:x.id=id
  ·rw [if_pos (by simpa using hx)]
   exact .inl ⟨_,rfl,by rw [fstS,if_pos hx]⟩
  ·rw [if_neg (by simpa using hx),ck_pos ⟨by omega,by omega⟩]
   exact .inr ⟨_,rfl,by omega,rfl,by rw [fstS,if_neg hx]⟩
def numF (r:Record):List UInt8:=if r.inbound=true then r.b else r.a
def ownF (L:List Sub) (n:List UInt8):Sub×Bool:=match alook (owF L []) n with
 | none=>(noSub,false)
 | some id=>fstS id L
theorem p_owner (evs:List Event) (r:Record) (c:Customers) (h:f_customer_State evs r.start=some c) (hl:c.subs.length≤10000) (hn:∀ s,s∈c.subs→s.numbers.length≤10000) :
  f_enrich_work_owner (⟨(⟨r⟩:EnrichSource),evs⟩:EnrichWork)=some (ownF c.subs (numF r)):=by
 unfold f_enrich_work_owner
 have hnum:f_enrich_source_number (⟨r⟩:EnrichSource)=some (numF r):=by
  unfold f_enrich_source_number numF
  split <;> rfl
 simp only
 rw [hnum,Option.bind_some]
 unfold f_numbering_Owner ownF
 rw [p_owners evs _ c h hl hn,Option.bind_some,Option.bind_some]
 cases ha:alook (owF c.subs []) (numF r) with
 | none=>simp
 | some id =>
  simp only [Option.isSome_some,Option.getD_some,Bool.not_true,Bool.false_eq_true,if_false]
  rw [p_Sub evs id _ c h hl,Option.bind_some]
def noUse:Usage:=⟨0,0,0,0,([]:List UInt8),([]:List UInt8),0,0,0,false,0,0⟩
def useF (L:List Sub) (r:Record) (id:Int):Usage×Int :=
 if errF r≠0 then (noUse,errF r)
 else if r.part≠0 then (noUse,8)
 else if (ownF L (numF r)).2=false then (noUse,11)
 else if (ownF L (numF r)).1.suspended=true∧r.inbound=false then (noUse,16)
 else (⟨id,r.kind,(ownF L (numF r)).1.account,(ownF L (numF r)).1.id,r.a,r.b,r.start,r.units,r.trunk,r.inbound,r.source,r.serial⟩,0)
theorem p_Usage (evs:List Event) (r:Record) (id:Int) (c:Customers) (h:f_customer_State evs r.start=some c) (hl:c.subs.length≤10000) (hn:∀ s,s∈c.subs→s.numbers.length≤10000) (hs:Sm r) :
  f_enrich_Usage evs r id=some (useF c.subs r id):=by
 unfold f_enrich_Usage useF
 rw [p_Check r hs,Option.bind_some,p_owner evs r c h hl hn]
 by_cases h1:errF r=0
 ·rw [if_neg (show ¬((errF r != 0)=true) by simp [h1]),if_neg (show ¬(errF r≠0) from fun k=>k h1)]
  by_cases h2:r.part=0
  ·rw [if_neg (show ¬((r.part != 0)=true) by simp [h2]),if_neg (show ¬(r.part≠0) from fun k=>k h2),Option.bind_some]
   generalize ownF c.subs (numF r)=y
   obtain ⟨s,ok⟩:=y
   cases ok with
   | false=>simp [noUse]
   | true =>
    simp only [Bool.not_true,Bool.false_eq_true,if_false]
    cases hss:s.suspended <;> cases hi:r.inbound <;> simp [noUse,f_enrich_source_usage,hi]
  ·rw [if_pos (show (r.part != 0)=true by simpa using h2),if_pos (show r.part≠0 from h2)]; rfl
 ·rw [if_pos (show (errF r != 0)=true by simpa using h1),if_pos (show errF r≠0 from h1)]; rfl
abbrev Bk:=Billingref17Book
def idxF {α:Type} (p:α→Bool):List α→Int→Int
 | [],_=>-1
 | a :: l,i=>if p a=true then i else idxF p l (i+1)
theorem idxF_spec {α:Type} [Inhabited α] (p:α→Bool):∀ (l:List α) (i:Int),0≤i→(idxF p l i=-1∧∀ a,a∈l→p a=false)∨(i≤idxF p l i∧idxF p l i < i+l.length∧p (nth l (idxF p l i-i).toNat)=true)
 | [],i,_=>.inl ⟨rfl,fun a h=>by simp at h⟩
 | a :: l,i,hi=>by
  unfold idxF
  by_cases h:p a=true
  ·rw [if_pos h]
   refine .inr ⟨by omega,by rw [List.length_cons]; omega,?_⟩
   rw [show (i-i).toNat=0 from by omega,nth_cons_zero]; exact h
  ·rw [if_neg h]
   rcases idxF_spec p l (i+1) (by omega) with ⟨h1,h2⟩ | ⟨h1,h2,h3⟩
   ·exact .inl ⟨h1,fun b hb=>by
     rcases List.mem_cons.1 hb with rfl | hb
     ·simpa using h
     ·exact h2 b hb⟩
   ·refine .inr ⟨by omega,by rw [List.length_cons]; omega,?_⟩
    rw [show (idxF p l (i+1) - i).toNat=(idxF p l (i+1) - (i+1)).toNat+1 from by omega,nth_cons_succ]; exact h3
theorem p_account (b:Bk) (n:Int) (hl:b.accounts.length≤100000):f_r17_account b n=some (idxF (fun a=>a.id==n) b.accounts 0):=by
 unfold f_r17_account
 refine loop_rec0 (step:=fun s:Int=>f_r17_account_l1 b n s) b.accounts (fun s=>s) (fun s r=>some (idxF (fun a=>a.id==n) r s)) (fun s r=>0≤s) (by omega) ?_ ?_ (s:=0) rfl (by simp)
 ·rintro i h1 h2
  refine ⟨_,?_,rfl⟩
  unfold f_r17_account_l1
  rw [if_neg (by simp only [decide_eq_true_eq]; omega)]
  rfl
 ·rintro i x r h1 h2 h3 h4 h5
  unfold f_r17_account_l1
  rw [if_pos (by simpa using h3),ck_pos ⟨h2,h3⟩,h4]
  by_cases hx:(x.id==n)=true
  ·rw [if_pos hx]
   exact .inl ⟨_,rfl,by rw [idxF,if_pos hx]⟩
  ·rw [if_neg hx,ck_pos ⟨by omega,by omega⟩]
   exact .inr ⟨_,rfl,by omega,rfl,by rw [idxF,if_neg hx]⟩
def sIdx (b:Bk) (n:Int):Int:=idxF (fun a:Sub=>a.id==n) b.subs 0
theorem p_bsub (b:Bk) (n:Int) (hl:b.subs.length≤100000):f_r17_sub b n=some (sIdx b n):=by
 unfold f_r17_sub
 refine loop_rec0 (step:=fun s:Int=>f_r17_sub_l1 b n s) b.subs (fun s=>s) (fun s r=>some (idxF (fun a:Sub=>a.id==n) r s)) (fun s r=>0≤s) (by omega) ?_ ?_ (s:=0) rfl (by simp)
 ·rintro i h1 h2
  refine ⟨_,?_,rfl⟩
  unfold f_r17_sub_l1
  rw [if_neg (by simp only [decide_eq_true_eq]; omega)]
  rfl
 ·rintro i x r h1 h2 h3 h4 h5
  unfold f_r17_sub_l1
  rw [if_pos (by simpa using h3),ck_pos ⟨h2,h3⟩,h4]
  by_cases hx:(x.id==n)=true
  ·rw [if_pos hx]
   exact .inl ⟨_,rfl,by rw [idxF,if_pos hx]⟩
  ·rw [if_neg hx,ck_pos ⟨by omega,by omega⟩]
   exact .inr ⟨_,rfl,by omega,rfl,by rw [idxF,if_neg hx]⟩
theorem p_ended (b:Bk) (n:Int) (hl:b.ended.length≤100000):f_r17_ended b n=some (decide (n∈b.ended)):=by
 unfold f_r17_ended
 refine loop_rec0 (step:=fun s:Int=>f_r17_ended_l1 b n s) b.ended (fun s=>s) (fun s r=>some (decide (n∈r))) (fun s r=>0≤s) (by omega) ?_ ?_ (s:=0) rfl (by simp)
 ·rintro i h1 h2
  refine ⟨_,?_,rfl⟩
  unfold f_r17_ended_l1
  rw [if_neg (by simp only [decide_eq_true_eq]; omega)]
  simp
 ·rintro i x r h1 h2 h3 h4 h5
  unfold f_r17_ended_l1
  rw [if_pos (by simpa using h3),ck_pos ⟨h2,h3⟩,h4]
  by_cases hx:x=n
  ·rw [if_pos (by simpa using hx)]
   exact .inl ⟨_,rfl,by simp [hx]⟩
  ·rw [if_neg (by simpa using hx),ck_pos ⟨by omega,by omega⟩]
   exact .inr ⟨_,rfl,by omega,rfl,by simp [Ne.symm hx]⟩
theorem p_Has (l:List (List UInt8)) (n:List UInt8) (hl:l.length≤100000):f_r17_Has l n=some (decide (n∈l)):=by
 unfold f_r17_Has
 refine loop_rec0 (step:=fun s:Int=>f_r17_Has_l1 l n s) l (fun s=>s) (fun s r=>some (decide (n∈r))) (fun s r=>0≤s) (by omega) ?_ ?_ (s:=0) rfl (by simp)
 ·rintro i h1 h2
  refine ⟨_,?_,rfl⟩
  unfold f_r17_Has_l1
  rw [if_neg (by simp only [decide_eq_true_eq]; omega)]
  simp
 ·rintro i x r h1 h2 h3 h4 h5
  unfold f_r17_Has_l1
  rw [if_pos (by simpa using h3),ck_pos ⟨h2,h3⟩,h4]
  by_cases hx:x=n
  ·rw [if_pos (by simpa using hx)]
   exact .inl ⟨_,rfl,by simp [hx]⟩
  ·rw [if_neg (by simpa using hx),ck_pos ⟨by omega,by omega⟩]
   exact .inr ⟨_,rfl,by omega,rfl,by simp [Ne.symm hx]⟩
structure BB (n:Nat) (b:Bk):Prop where
 accs:b.accounts.length≤n
 subs:b.subs.length≤n
 ended:b.ended.length≤n
 nums:∀ s,s∈b.subs→s.numbers.length≤n∧s.products.length≤n
theorem BB.up {n:Nat} {b:Bk} (h:BB n b):BB (n+1) b:=⟨by have:=h.accs; omega,by have:=h.subs; omega,by have:=h.ended; omega,fun s hs=>by have:=h.nums s hs; omega⟩
theorem p_taken (b:Bk) (x:List UInt8) (n:Nat) (h:BB n b) (hn:n≤10000):f_r17_taken b x=some (b.subs.any fun s=>decide (x∈s.numbers)):=by
 unfold f_r17_taken
 have hl:=h.subs
 refine loop_rec0 (step:=fun s:Int=>f_r17_taken_l1 b x s) b.subs (fun s=>s) (fun s r=>some (r.any fun s=>decide (x∈s.numbers))) (fun s r=>0≤s∧∀ y,y∈r→y.numbers.length≤n) (by omega) ?_ ?_ (s:=0) rfl ⟨by simp,fun y hy=>(h.nums y hy).1⟩
 ·rintro i ⟨h1,_⟩ h2
  refine ⟨_,?_,rfl⟩
  unfold f_r17_taken_l1
  rw [if_neg (by simp only [decide_eq_true_eq]; omega)]
  simp
 ·rintro i y r ⟨h1,h2⟩ h3 h4 h5 h6
  have hy:=h2 y (List.mem_cons_self ..)
  unfold f_r17_taken_l1
  rw [if_pos (by simpa using h4),ck_pos ⟨h3,h4⟩,h5,p_Has _ _ (by omega),Option.bind_some]
  by_cases hx:x∈y.numbers
  ·rw [if_pos (by simpa using hx)]
   exact .inl ⟨_,rfl,by simp [hx]⟩
  ·rw [if_neg (by simpa using hx),ck_pos ⟨by omega,by omega⟩]
   exact .inr ⟨_,rfl,⟨by omega,fun z hz=>h2 z (List.mem_cons_of_mem _ hz)⟩,rfl,by simp [hx]⟩
theorem p_busy (b:Bk) (k:Int) (n:Nat) (h:BB n b) (hn:n≤10000):∃ y,f_r17_busy b k=some y:=by
 unfold f_r17_busy
 have hl:=h.subs
 have he:=h.ended
 refine ⟨_,loop_rec0 (step:=fun s:Int=>f_r17_busy_l1 b k s) b.subs (fun s=>s) (fun s r=>some (r.any fun s=>(s.account==k) && !decide (s.id∈b.ended))) (fun s r=>0≤s) (by omega) ?_ ?_ (s:=0) rfl (by simp)⟩
 ·rintro i h1 h2
  refine ⟨_,?_,rfl⟩
  unfold f_r17_busy_l1
  rw [if_neg (by simp only [decide_eq_true_eq]; omega)]
  simp
 ·rintro i y r h1 h3 h4 h5 h6
  unfold f_r17_busy_l1
  rw [if_pos (by simpa using h4),ck_pos ⟨h3,h4⟩,ck_pos (fun _=>⟨h3,h4⟩),h5,p_ended _ _ (by omega)]
  by_cases ha:(y.account==k)=true
  ·simp only [ha,gcall,if_true,Option.bind_some,Bool.true_and]
   by_cases hx:y.id∈b.ended
   ·rw [if_neg (by simpa using hx),ck_pos ⟨by omega,by omega⟩]
    exact .inr ⟨_,rfl,by omega,rfl,by simp [ha,hx]⟩
   ·rw [if_pos (by simpa using hx)]
    exact .inl ⟨_,rfl,by simp [ha,hx]⟩
  ·have ha':(y.account==k)=false:=by simpa using ha
   simp only [ha',gcall,Bool.false_eq_true,if_false,Option.bind_some,Bool.false_and]
   rw [ck_pos ⟨by omega,by omega⟩]
   exact .inr ⟨_,rfl,by omega,rfl,by simp [ha']⟩
def usesF (k:Int):List Bool :=
 if k=1 then [true,false,false,true,true] else if k=2 then [true,false,false,false,false] else if k=3 then [true,true,false,true,false]
 else if k=5∨k=6 then [false,true,true,false,false] else if k=7∨k=8∨k=9 then [false,true,false,true,false] else if k=14∨k=15 then [true,false,false,false,true] else [false,true,false,false,false]
theorem p_uses (k:Int):f_r17_uses k=some (usesF k):=by
 unfold f_r17_uses usesF
 have h3:∀ b:Bool,(b=true→k=14∨k=15)→(b=false→¬(k=14∨k=15))→f_r17_uses_j3 b=some (if k=14∨k=15 then [true,false,false,false,true] else [false,true,false,false,false]):=fun b h1 h2=>by
  unfold f_r17_uses_j3
  cases b with
  | true=>rw [if_pos rfl,if_pos (h1 rfl)]
  | false=>rw [if_neg (by simp),if_neg (h2 rfl)]
 have h2:∀ b:Bool,(b=true→k=7∨k=8∨k=9)→(b=false→¬(k=7∨k=8∨k=9))→f_r17_uses_j2 k b=some (if k=7∨k=8∨k=9 then [false,true,false,true,false] else if k=14∨k=15 then [true,false,false,false,true] else [false,true,false,false,false]):=fun b h1 h2=>by
  unfold f_r17_uses_j2
  cases b with
  | true=>rw [if_pos rfl,if_pos (h1 rfl)]
  | false =>
   rw [if_neg (by simp),if_neg (h2 rfl)]
   by_cases k14:k=14
   ·rw [if_pos (by simpa using k14)]; exact h3 _ (fun _=>.inl k14) (fun h=>by simp [k14] at h)
   ·rw [if_neg (by simpa using k14)]; exact h3 _ (fun h=>.inr (by simpa using h)) (fun h=>by rw [beq_eq_false_iff_ne] at h; omega)
 have h1:∀ b:Bool,(b=true→k=5∨k=6)→(b=false→¬(k=5∨k=6))→f_r17_uses_j1 k b=some (if k=5∨k=6 then [false,true,true,false,false] else if k=7∨k=8∨k=9 then [false,true,false,true,false] else if k=14∨k=15 then [true,false,false,false,true] else [false,true,false,false,false]):=fun b h1 h2'=>by
  unfold f_r17_uses_j1
  cases b with
  | true=>rw [if_pos rfl,if_pos (h1 rfl)]
  | false =>
   rw [if_neg (by simp),if_neg (h2' rfl)]
   by_cases k7:k=7
   ·rw [if_pos (by simpa using k7)]; exact h2 _ (fun _=>.inl k7) (fun h=>by simp [k7] at h)
   rw [if_neg (by simpa using k7)]
   by_cases k8:k=8
   ·rw [if_pos (by simpa using k8)]; exact h2 _ (fun _=>.inr (.inl k8)) (fun h=>by simp [k8] at h)
   rw [if_neg (by simpa using k8)]
   exact h2 _ (fun h=>.inr (.inr (by simpa using h))) (fun h=>by rw [beq_eq_false_iff_ne] at h; omega)
 by_cases k1:k=1
 ·rw [if_pos (by simpa using k1),if_pos k1]
 rw [if_neg (by simpa using k1),if_neg k1]
 by_cases k2:k=2
 ·rw [if_pos (by simpa using k2),if_pos k2]
 rw [if_neg (by simpa using k2),if_neg k2]
 by_cases k3:k=3
 ·rw [if_pos (by simpa using k3),if_pos k3]
 rw [if_neg (by simpa using k3),if_neg k3]
 by_cases k5:k=5
 ·rw [if_pos (by simpa using k5)]; exact h1 _ (fun _=>.inl k5) (fun h=>by simp [k5] at h)
 rw [if_neg (by simpa using k5)]
 exact h1 _ (fun h=>.inr (by simpa using h)) (fun h=>by rw [beq_eq_false_iff_ne] at h; omega)
theorem p_Name (s:List UInt8) (hl:s.length≤100000):∃ y,f_r17_Name s=some y:=by
 unfold f_r17_Name
 by_cases h:(decide ((s.length:Int) < 1) || decide ((s.length:Int) > 24))=true
 ·rw [ck_pos (by simp [h]),ck_pos (by simp [h]),if_pos (by simp [h])]; exact ⟨_,rfl⟩
 ·have h':¬((s.length:Int) < 1):=by simp at h; omega
  rw [ck_pos (fun _=>⟨by omega,by omega⟩),ck_pos (fun _=>⟨by omega,by omega⟩)]
  split
  ·exact ⟨_,rfl⟩
  ·refine ⟨_,loop_rec0 (step:=fun i:Int=>f_r17_Name_l1 s i) s (fun i=>i) (fun i r=>some (r.all fun c=>!((((decide (c < 97)) || (decide (c > 122))) && ((decide (c < 48)) || (decide (c > 57)))) && (c != 45)))) (fun i r=>0≤i) (by omega) ?_ ?_ (s:=0) rfl (by simp)⟩
   ·rintro i h1 h2
    refine ⟨_,?_,rfl⟩
    unfold f_r17_Name_l1
    rw [if_neg (by simp only [decide_eq_true_eq]; omega)]
    simp
   ·rintro i c r h1 h2 h3 h4 h5
    unfold f_r17_Name_l1
    rw [if_pos (by simpa using h3),ck_pos ⟨h2,h3⟩,ck_pos (fun _=>⟨h2,h3⟩),ck_pos (fun _=>⟨h2,h3⟩),ck_pos (fun _=>⟨h2,h3⟩),ck_pos (fun _=>⟨h2,h3⟩),h4]
    split
    ·rename_i hc
     exact .inl ⟨_,rfl,by simp only [List.all_cons,hc,Bool.not_true,Bool.false_and]⟩
    ·rename_i hc
     rw [ck_pos ⟨by omega,by omega⟩]
     exact .inr ⟨_,rfl,by omega,rfl,by rw [List.all_cons,Bool.not_eq_true _ |>.mp hc]; rfl⟩
structure FormOk (e:Event) (last:Int):Prop where
 kind:1≤e.kind∧e.kind≤15
 at_:last≤e.at_
 sub:¬(e.kind=1∨e.kind=2∨e.kind=14∨e.kind=15)→1≤e.sub∧e.sub≤9999
 num:e.kind=5→e.number≠[]
theorem p_value (e:Event):∃ y,f_r17_value e=some y:=by
 unfold f_r17_value
 split
 ·exact ⟨_,rfl⟩
 ·split <;> exact ⟨_,rfl⟩
theorem gc_some {α:Type} [Inhabited α] (b:Bool) (x:α):∃ y,gcall b (some x)=some y∧(b=true→y=x):=⟨_,gcall_mk,fun h=>by rw [if_pos h]⟩
theorem p_form (e:Event) (last:Int) (h1:e.name.length≤1000) (h2:e.number.length≤1000):∃ y,f_r17_form e last=some y∧(y=0→FormOk e last):=by
 obtain ⟨nb,hnb⟩:=p_Name e.name (by omega)
 obtain ⟨vb,hvb⟩:=p_value e
 unfold f_r17_form
 rw [p_uses,hnb,p_rValid _ (by omega),hvb]
 unfold f_r17_id
 simp only [Option.bind_some]
 by_cases c1:(decide (e.kind < 1) || decide (e.kind > 15))=true
 ·rw [if_pos c1]; exact ⟨_,rfl,by omega⟩
 rw [if_neg c1]
 by_cases c2:(decide (e.at_ < 0) || decide (e.at_≥12622780800))=true
 ·rw [if_pos c2]; exact ⟨_,rfl,by omega⟩
 rw [if_neg c2]
 by_cases c3:decide (e.at_ < last)=true
 ·rw [if_pos c3]; exact ⟨_,rfl,by omega⟩
 rw [if_neg c3]
 have k1:1≤e.kind∧e.kind≤15:=by simp at c1; omega
 have k2:last≤e.at_:=by simpa using c3
 split
 ·exact ⟨_,rfl,by omega⟩
 obtain ⟨y2,hy2,q2⟩:=gc_some (nth (usesF e.kind) 0) (decide (e.account≥1) && decide (e.account≤9999))
 rw [hy2,Option.bind_some]
 obtain ⟨y3,hy3,q3⟩:=gc_some ((!((nth (usesF e.kind) 0) && (!y2))) && (nth (usesF e.kind) 1)) (decide (e.sub≥1) && decide (e.sub≤9999))
 rw [hy3,Option.bind_some]
 by_cases c5:((nth (usesF e.kind) 0 && !y2) || (nth (usesF e.kind) 1 && !y3))=true
 ·rw [if_pos c5]; exact ⟨_,rfl,by omega⟩
 rw [if_neg c5]
 obtain ⟨y4,hy4,q4⟩:=gc_some (nth (usesF e.kind) 3) nb
 rw [hy4,Option.bind_some]
 split
 ·exact ⟨_,rfl,by omega⟩
 obtain ⟨y5,hy5,q5⟩:=gc_some (nth (usesF e.kind) 2) (validB e.number)
 rw [hy5,Option.bind_some]
 by_cases c7:(nth (usesF e.kind) 2 && !y5)=true
 ·rw [if_pos c7]; exact ⟨_,rfl,by omega⟩
 rw [if_neg c7]
 obtain ⟨y6,hy6,q6⟩:=gc_some (nth (usesF e.kind) 4) vb
 rw [hy6,Option.bind_some]
 have fin:FormOk e last:=by
  refine ⟨k1,k2,fun hk=>?_,fun hk=>?_⟩
  ·have hu:nth (usesF e.kind) 1=true:=by
    unfold usesF
    rw [if_neg (by omega),if_neg (by omega)]
    split
    ·rfl
    split
    ·rfl
    split
    ·rfl
    rw [if_neg (by omega)]
    rfl
   have c5a:(nth (usesF e.kind) 0 && !y2)=false:=by
    cases hh:(nth (usesF e.kind) 0 && !y2) with
    | false=>rfl
    | true=>rw [hh] at c5; simp at c5
   rw [c5a,hu] at q3 c5
   have y3t:y3=true:=by cases y3 <;> simp_all
   have:=q3 rfl
   rw [y3t] at this
   simp at this
   omega
  ·have hu:nth (usesF e.kind) 2=true:=by
    unfold usesF
    rw [if_neg (by omega),if_neg (by omega),if_neg (by omega),if_pos (.inl hk)]
    rfl
   rw [hu] at c7 q5
   have y5t:y5=true:=by cases y5 <;> simp_all
   have hv:=q5 rfl
   rw [y5t] at hv
   intro hn
   rw [hn] at hv
   simp [validB] at hv
 split
 ·exact ⟨_,rfl,by omega⟩
 ·exact ⟨_,rfl,fun _=>fin⟩
def aIdx (b:Bk) (n:Int):Int:=idxF (fun a:Account=>a.id==n) b.accounts 0
theorem p_ofAccount (b:Bk) (e:Event) (n:Nat) (h:BB n b) (hn:n≤10000):∃ y,f_r17_ofAccount b e=some y∧(y=0→(e.kind=3→sIdx b e.sub=-1)∧(e.kind≠1→0≤aIdx b e.account∧aIdx b e.account < (b.accounts.length:Int))):=by
 have ha:=h.accs
 have hs:=h.subs
 obtain ⟨by_,hby⟩:=p_busy b e.account n h hn
 unfold f_r17_ofAccount
 rw [p_account b _ (by omega),Option.bind_some,p_bsub b _ (by omega),hby]
 rw [show idxF (fun a:Account=>a.id==e.account) b.accounts 0=aIdx b e.account from rfl]
 have sp:(aIdx b e.account=-1)∨(0≤aIdx b e.account∧aIdx b e.account < (b.accounts.length:Int)):=by
  rcases idxF_spec (fun a:Account=>a.id==e.account) b.accounts 0 (by omega) with ⟨q,_⟩ | ⟨q1,q2,_⟩
  ·exact .inl q
  ·exact .inr ⟨q1,by unfold aIdx; omega⟩
 have sq:sIdx b e.sub=-1∨0≤sIdx b e.sub:=by
  rcases idxF_spec (fun a:Sub=>a.id==e.sub) b.subs 0 (by omega) with ⟨q,_⟩ | ⟨q1,q2,_⟩
  ·exact .inl q
  ·exact .inr q1
 by_cases k1:e.kind=1
 ·rw [if_pos (by simpa using k1)]
  split
  ·exact ⟨_,rfl,by omega⟩
  ·exact ⟨_,rfl,fun _=>⟨by omega,by omega⟩⟩
 rw [if_neg (by simpa using k1)]
 by_cases k2:aIdx b e.account < 0
 ·rw [if_pos (by simpa using k2)]; exact ⟨_,rfl,by omega⟩
 rw [if_neg (by simpa using k2),ck_pos (by omega)]
 split
 ·exact ⟨_,rfl,by omega⟩
 obtain ⟨y2,hy2,q2⟩:=gc_some (e.kind==3) (sIdx b e.sub)
 rw [hy2,Option.bind_some]
 by_cases c2:((e.kind==3) && decide (y2≥0))=true
 ·rw [if_pos c2]; exact ⟨_,rfl,by omega⟩
 rw [if_neg c2]
 obtain ⟨y3,hy3,q3⟩:=gc_some (e.kind==2) by_
 rw [hy3,Option.bind_some,ck_pos (by intro _; omega)]
 split
 ·exact ⟨_,rfl,by omega⟩
 refine ⟨_,rfl,fun _=>⟨fun k3=>?_,fun _=>by omega⟩⟩
 have e2:=q2 (by simpa using k3)
 rcases sq with q | q
 ·exact q
 ·exact absurd (by simp [k3,e2,q]) c2
theorem p_ofSub (b:Bk) (e:Event) (n:Nat) (h:BB n b) (hn:n≤10000):∃ y,f_r17_ofSub b e=some y∧(y=0→(0≤sIdx b e.sub∧sIdx b e.sub < (b.subs.length:Int))∧e.sub ∉ b.ended∧(e.kind=5→∀ s,s∈b.subs→e.number ∉ s.numbers)):=by
 have hs:=h.subs
 have he:=h.ended
 unfold f_r17_ofSub
 rw [p_bsub b _ (by omega),Option.bind_some]
 by_cases k1:sIdx b e.sub < 0
 ·rw [if_pos (by simpa using k1)]; exact ⟨_,rfl,by omega⟩
 rw [if_neg (by simpa using k1),p_ended b _ (by omega),Option.bind_some]
 by_cases k2:e.sub∈b.ended
 ·rw [if_pos (by simpa using k2)]; exact ⟨_,rfl,by omega⟩
 rw [if_neg (by simpa using k2)]
 have sp:0≤sIdx b e.sub∧sIdx b e.sub < (b.subs.length:Int):=by
  rcases idxF_spec (fun a:Sub=>a.id==e.sub) b.subs 0 (by omega) with ⟨q,_⟩ | ⟨q1,q2,_⟩
  ·unfold sIdx at k1; omega
  ·unfold sIdx; omega
 rw [ck_pos sp]
 have hm:=h.nums _ (nth_mem (l:=b.subs) (k:=(sIdx b e.sub).toNat) (by omega))
 by_cases k5:e.kind=5
 ·rw [if_pos (by simpa using k5),p_taken b _ n h hn,Option.bind_some]
  split
  ·exact ⟨_,rfl,by omega⟩
  ·rename_i c
   refine ⟨_,rfl,fun _=>⟨sp,k2,fun _ s hs' hx=>c ?_⟩⟩
   rw [List.any_eq_true]; exact ⟨s,hs',by simpa using hx⟩
 rw [if_neg (by simpa using k5)]
 have ok:∀ y:Int,∃ z,some y=some z∧(z=0→(0≤sIdx b e.sub∧sIdx b e.sub < (b.subs.length:Int))∧e.sub ∉ b.ended∧(e.kind=5→∀ s,s∈b.subs→e.number ∉ s.numbers)):=fun y=>⟨y,rfl,fun _=>⟨sp,k2,fun k=>absurd k k5⟩⟩
 rw [p_Has _ _ (by omega),p_Has _ _ (by omega)]
 simp only [Option.bind_some]
 unfold f_r17_ofSub_j1 f_r17_ofSub_j2
 repeat' split
 all_goals exact ok _
structure FaultOk (b:Bk) (e:Event) (last:Int):Prop where
 form:FormOk e last
 acc:e.kind=2→0≤aIdx b e.account∧aIdx b e.account < (b.accounts.length:Int)
 add:e.kind=3→sIdx b e.sub=-1
 sub:¬(e.kind=1∨e.kind=2∨e.kind=3∨e.kind=14∨e.kind=15)→(0≤sIdx b e.sub∧sIdx b e.sub < (b.subs.length:Int))∧e.sub ∉ b.ended∧(e.kind=5→∀ s,s∈b.subs→e.number ∉ s.numbers)
theorem p_Fault (b:Bk) (e:Event) (last:Int) (n:Nat) (h:BB n b) (hn:n≤10000) (h1:e.name.length≤1000) (h2:e.number.length≤1000):∃ y,f_r17_Fault b e last=some y∧(y=0→FaultOk b e last):=by
 obtain ⟨y1,e1,q1⟩:=p_form e last h1 h2
 obtain ⟨y2,e2,q2⟩:=p_ofAccount b e n h hn
 obtain ⟨y3,e3,q3⟩:=p_ofSub b e n h hn
 unfold f_r17_Fault
 rw [e1,Option.bind_some,p_uses,Option.bind_some,e2,e3]
 by_cases c1:y1=0
 ·rw [if_neg (by simpa using c1)]
  have f:=q1 c1
  by_cases c2:nth (usesF e.kind) 0=true
  ·rw [if_pos c2]
   refine ⟨y2,rfl,fun h0=>⟨f,fun k=>(q2 h0).2 (by omega),fun k=>(q2 h0).1 k,fun k=>?_⟩⟩
   exfalso
   unfold usesF at c2
   rw [if_neg (by omega),if_neg (by omega),if_neg (by omega)] at c2
   split at c2
   ·simp [nth] at c2
   split at c2
   ·simp [nth] at c2
   rw [if_neg (by omega)] at c2
   simp [nth] at c2
  ·rw [if_neg c2]
   have k0:¬(e.kind=1∨e.kind=2∨e.kind=3∨e.kind=14∨e.kind=15):=fun k=>c2 (by
    unfold usesF
    rcases k with k | k | k | k | k <;> simp [k,nth])
   exact ⟨y3,rfl,fun h0=>⟨f,fun k=>absurd (.inr (.inl k)) k0,fun k=>absurd (.inr (.inr (.inl k))) k0,fun _=>q3 h0⟩⟩
 ·rw [if_pos (by simpa using c1)]; exact ⟨y1,rfl,fun h0=>absurd h0 c1⟩
def chB (s:Sub) (e:Event):Sub:=if e.kind=4 then { s with numbers:=[],products:=[] } else chF s e
theorem p_bchanged (s:Sub) (e:Event) (h1:s.numbers.length≤100000) (h2:s.products.length≤100000):f_r17_changed s e=some (chB s e):=by
 unfold f_r17_changed chB chF
 by_cases k4:e.kind=4
 ·rw [if_pos (by simpa using k4),if_pos k4]
 rw [if_neg (by simpa using k4),if_neg k4]
 by_cases k5:e.kind=5
 ·rw [if_pos (by simpa using k5),p_With _ _ h1,if_pos k5]; rfl
 rw [if_neg (by simpa using k5),if_neg k5]
 by_cases k6:e.kind=6
 ·rw [if_pos (by simpa using k6),p_Without _ _ h1,if_pos k6]; rfl
 rw [if_neg (by simpa using k6),if_neg k6]
 by_cases k7:e.kind=7
 ·rw [if_pos (by simpa using k7),if_pos k7]
 rw [if_neg (by simpa using k7),if_neg k7]
 by_cases k8:e.kind=8
 ·rw [if_pos (by simpa using k8),p_With _ _ h2,if_pos k8]; rfl
 rw [if_neg (by simpa using k8),if_neg k8]
 by_cases k9:e.kind=9
 ·rw [if_pos (by simpa using k9),p_Without _ _ h2,if_pos k9]; rfl
 rw [if_neg (by simpa using k9),if_neg k9]
 by_cases k10:e.kind=10
 ·rw [if_pos (by simpa using k10),if_pos k10]
 rw [if_neg (by simpa using k10),if_neg k10]
 by_cases k11:e.kind=11
 ·rw [if_pos (by simpa using k11),if_pos k11]
 rw [if_neg (by simpa using k11),if_neg k11]
 by_cases k12:e.kind=12
 ·rw [if_pos (by simpa using k12),if_pos k12]
 rw [if_neg (by simpa using k12),if_neg k12]
 by_cases k13:e.kind=13
 ·rw [if_pos (by simpa using k13),if_pos k13]
 rw [if_neg (by simpa using k13),if_neg k13]
theorem chB_len (s:Sub) (e:Event):(chB s e).numbers.length≤s.numbers.length+1∧(chB s e).products.length≤s.products.length+1:=by
 unfold chB
 split
 ·simp
 ·exact chF_len s e
def subB (b:Bk) (e:Event):List Sub :=
 if e.kind=3 then b.subs++[newSub e]
 else if e.kind=1∨e.kind=2∨e.kind=14∨e.kind=15 then b.subs
 else b.subs.set (sIdx b e.sub).toNat (chB (nth b.subs (sIdx b e.sub).toNat) e)
def endB (b:Bk) (e:Event):List Int:=if e.kind=4 then b.ended++[e.sub] else b.ended
theorem p_Apply (b:Bk) (e:Event) (last:Int) (n:Nat) (h:BB n b) (hn:n≤10000) (f:FaultOk b e last):∃ b',f_r17_Apply b e=some b'∧BB (n+1) b'∧b'.subs=subB b e∧b'.ended=endB b e:=by
 have ha:=h.accs
 have hs:=h.subs
 have he:=h.ended
 have up:=h.up
 unfold f_r17_Apply
 rw [ck_pos (by omega),ck_pos (by omega),ck_pos (by omega)]
 unfold subB endB
 simp only [List.nil_append]
 by_cases k1:e.kind=1
 ·have n3:¬e.kind=3:=by omega
  have n4:¬e.kind=4:=by omega
  rw [if_pos (by simpa using k1),ck_pos (by simp only [List.length_singleton]; omega),if_neg n3,if_pos (.inl k1),if_neg n4]
  exact ⟨_,rfl,⟨by simp only [List.length_append,List.length_singleton]; omega,up.subs,up.ended,up.nums⟩,rfl,rfl⟩
 rw [if_neg (by simpa using k1)]
 by_cases k2:e.kind=2
 ·have n3:¬e.kind=3:=by omega
  have n4:¬e.kind=4:=by omega
  have hk:=f.acc k2
  rw [if_pos (by simpa using k2),p_account b _ (by omega),Option.bind_some,show idxF (fun a:Account=>a.id==e.account) b.accounts 0=aIdx b e.account from rfl,ck_pos hk,ck_pos (by omega),if_neg n3,if_pos (.inr (.inl k2)),if_neg n4]
  exact ⟨_,rfl,⟨by simp only [List.length_set]; omega,up.subs,up.ended,up.nums⟩,rfl,rfl⟩
 rw [if_neg (by simpa using k2)]
 by_cases k3:e.kind=3
 ·have n4:¬e.kind=4:=by omega
  rw [if_pos (by simpa using k3),ck_pos (by simp only [List.length_singleton]; omega),if_pos k3,if_neg n4]
  refine ⟨_,rfl,⟨up.accs,by simp only [List.length_append,List.length_singleton]; omega,up.ended,fun s hs'=>?_⟩,rfl,rfl⟩
  simp only [List.mem_append,List.mem_singleton] at hs'
  rcases hs' with hs' | rfl
  ·exact up.nums s hs'
  ·simp
 rw [if_neg (by simpa using k3),if_neg k3]
 have hj:∀ c:Bool,(c=true→e.kind=14∨e.kind=15)→(c=false→¬(e.kind=14∨e.kind=15))→∃ b',f_r17_Apply_j1 b e c=some b'∧BB (n+1) b'∧b'.subs=(if e.kind=1∨e.kind=2∨e.kind=14∨e.kind=15 then b.subs else b.subs.set (sIdx b e.sub).toNat (chB (nth b.subs (sIdx b e.sub).toNat) e))∧b'.ended=(if e.kind=4 then b.ended++[e.sub] else b.ended):=fun c hc1 hc2=>by
  unfold f_r17_Apply_j1
  simp only [List.nil_append]
  cases c with
  | true =>
   have:=hc1 rfl
   rw [if_pos rfl,if_pos (.inr (.inr this)),if_neg (by omega)]
   exact ⟨_,rfl,up,rfl,rfl⟩
  | false =>
   have:=hc2 rfl
   obtain ⟨sp,_,_⟩:=f.sub (by omega)
   have hm:=h.nums _ (nth_mem (l:=b.subs) (k:=(sIdx b e.sub).toNat) (by omega))
   have hc:=chB_len (nth b.subs (sIdx b e.sub).toNat) e
   rw [if_neg (by simp),p_bsub b _ (by omega),Option.bind_some,ck_pos sp,ck_pos (by omega),p_bchanged _ _ (by omega) (by omega),Option.bind_some,ck_pos sp,ck_pos (by omega)]
   have nums':∀ s,s∈b.subs.set (sIdx b e.sub).toNat (chB (nth b.subs (sIdx b e.sub).toNat) e)→s.numbers.length≤n+1∧s.products.length≤n+1:=fun s hs'=>by
    rcases List.mem_or_eq_of_mem_set hs' with h9 | rfl
    ·exact up.nums s h9
    ·omega
   rw [if_neg (show ¬(e.kind=1∨e.kind=2∨e.kind=14∨e.kind=15) by omega)]
   by_cases k4:e.kind=4
   ·rw [if_pos (by simpa using k4),ck_pos (by simp only [List.length_singleton]; omega),if_pos k4]
    exact ⟨_,rfl,⟨up.accs,by simp only [List.length_set]; omega,by simp only [List.length_append,List.length_singleton]; omega,nums'⟩,rfl,rfl⟩
   ·rw [if_neg (by simpa using k4),if_neg k4]
    exact ⟨_,rfl,⟨up.accs,by simp only [List.length_set]; omega,up.ended,nums'⟩,rfl,rfl⟩
 by_cases k14:e.kind=14
 ·rw [if_pos (by simpa using k14)]
  exact hj _ (fun _=>.inl k14) (fun k=>by simp [k14] at k)
 ·rw [if_neg (by simpa using k14)]
  exact hj _ (fun k=>.inr (by simpa using k)) (fun k=>by rw [beq_eq_false_iff_ne] at k; omega)
def b0:Bk:=⟨[],[],[]⟩
theorem bb0:BB 0 b0:=⟨by simp [b0],by simp [b0],by simp [b0],fun s h=>by simp [b0] at h⟩
def chkO:List Event→Int→Int→Bk→Option (Int×Int)
 | [],_,_,_=>some (0,0)
 | e :: l,i,last,b=>(f_r17_Fault b e last).bind fun y=>if y≠0 then some (i,y) else (f_r17_Apply b e).bind fun b'=>chkO l (i+1) e.at_ b'
def VC:Bk→Int→List Event→Prop
 | _,_,[]=>True
 | b,last,e :: l=>FaultOk b e last∧∃ b',f_r17_Apply b e=some b'∧VC b' e.at_ l
def ShE (l:List Event):Prop:=∀ e,e∈l→e.name.length≤1000∧e.number.length≤1000
theorem chk_tot:∀ (l:List Event) (i last:Int) (b:Bk) (n:Nat),BB n b→n+l.length≤10000→ShE l→∃ x,chkO l i last b=some x∧(x.2=0→VC b last l)
 | [],i,last,b,n,_,_,_=>⟨_,rfl,fun _=>trivial⟩
 | e :: l,i,last,b,n,hb,hl,hs=>by
  rw [List.length_cons] at hl
  have he:=hs e (List.mem_cons_self ..)
  obtain ⟨y,hy,f⟩:=p_Fault b e last n hb (by omega) he.1 he.2
  unfold chkO
  rw [hy,Option.bind_some]
  by_cases h0:y=0
  ·rw [if_neg (by omega)]
   obtain ⟨b',ha,hb',_⟩:=p_Apply b e last n hb (by omega) (f h0)
   rw [ha,Option.bind_some]
   obtain ⟨x,h1,h2⟩:=chk_tot l (i+1) e.at_ b' (n+1) hb' (by omega) (fun z hz=>hs z (List.mem_cons_of_mem _ hz))
   exact ⟨x,h1,fun h=>⟨f h0,b',ha,h2 h⟩⟩
  ·rw [if_pos h0]
   exact ⟨_,rfl,fun h=>absurd h h0⟩
theorem p_rCheck17 (evs:List Event) (hl:evs.length≤1000) (hs:ShE evs):f_r17_Check evs=chkO evs 0 0 b0:=by
 unfold f_r17_Check
 rw [if_neg (by simp; omega)]
 refine loop_rec0 (step:=fun s:Int×Int×List Account×List Sub×List Int=>f_r17_Check_l1 evs s.1 s.2.1 s.2.2.1 s.2.2.2.1 s.2.2.2.2) evs (fun s=>s.2.1) (fun s r=>chkO r s.2.1 s.1 ⟨s.2.2.1,s.2.2.2.1,s.2.2.2.2⟩)
  (fun s r=>0≤s.2.1∧ShE r∧∃ n,BB n ⟨s.2.2.1,s.2.2.2.1,s.2.2.2.2⟩∧n+r.length≤10000) (by omega) ?_ ?_ (s:=(0,0,[],[],[])) rfl ⟨by simp,hs,0,bb0,by omega⟩
 ·rintro ⟨last,i,a,s,en⟩ ⟨h1,_⟩ h2
  try simp only at h2
  refine ⟨(0,0),?_,rfl⟩
  unfold f_r17_Check_l1
  rw [if_neg (by simp only [decide_eq_true_eq]; omega)]
 ·rintro ⟨last,i,a,s,en⟩ e r ⟨h1,hsr,n,hb,h2⟩ h3 h4 h5 h6
  simp only at h1 h2 h3 h4 h5 h6 hb
  rw [List.length_cons] at h2
  have he:=hsr e (List.mem_cons_self ..)
  obtain ⟨y,hy,f⟩:=p_Fault ⟨a,s,en⟩ e last n hb (by omega) he.1 he.2
  unfold f_r17_Check_l1
  simp only
  rw [if_pos (by simpa using h4),ck_pos ⟨h3,h4⟩,h5,hy,Option.bind_some]
  by_cases h0:y=0
  ·obtain ⟨b',ha,hb',_⟩:=p_Apply ⟨a,s,en⟩ e last n hb (by omega) (f h0)
   rw [if_neg (by simpa using h0),ck_pos ⟨h3,h4⟩,ha,Option.bind_some,ck_pos ⟨h3,h4⟩,ck_pos ⟨by omega,by omega⟩]
   refine .inr ⟨(e.at_,i+1,b'.accounts,b'.subs,b'.ended),rfl,⟨by simp only; omega,fun z hz=>hsr z (List.mem_cons_of_mem _ hz),n+1,hb',by omega⟩,rfl,?_⟩
   simp only
   rw [chkO,hy,Option.bind_some,if_neg (by omega),ha,Option.bind_some]
  ·rw [if_pos (by simpa using h0)]
   refine .inl ⟨_,rfl,?_⟩
   try simp only
   rw [chkO,hy,Option.bind_some,if_pos h0]
theorem p_Few (evs:List Event):∃ c,f_r21_Few evs=some c∧(c=true→evs.length≤40∧ShE evs∧VC b0 0 evs):=by
 unfold f_r21_Few
 refine loop_post (step:=fun s:Int=>f_r21_Few_l1 evs s) (fun c=>c=true→evs.length≤40∧ShE evs∧VC b0 0 evs) (fun i=>0≤i∧i≤(evs.length:Int)∧i≤41∧ShE (evs.take i.toNat)) (fun i=>(41-i).toNat) ?_ (s:=0) ⟨by omega,by omega,by omega,fun e h=>by simp at h⟩ (by omega)
 rintro i ⟨h0,h1,h2,h3⟩
 unfold f_r21_Few_l1
 by_cases hc:i < (evs.length:Int)∧i < 41
 ·rw [if_pos (by simpa using hc),ck_pos ⟨h0,hc.1⟩,ck_pos (fun _=>⟨h0,hc.1⟩)]
  split
  ·exact .inl ⟨_,rfl,fun h=>by simp at h⟩
  ·rename_i hb
   rw [ck_pos ⟨by omega,by omega⟩]
   refine .inr ⟨i+1,rfl,⟨by omega,by omega,by omega,?_⟩,by omega⟩
   rw [show (i+1).toNat=i.toNat+1 from by omega,take_nth (by omega)]
   intro e he
   rcases List.mem_append.1 he with he | he
   ·exact h3 e he
   ·rw [List.mem_singleton.1 he]
    simp at hb
    omega
 ·rw [if_neg (by simpa using hc)]
  unfold f_r21_Few_j1
  by_cases h40:(evs.length:Int) > 40
  ·rw [if_pos (by simpa using h40)]
   exact .inl ⟨_,rfl,fun h=>by simp at h⟩
  ·rw [if_neg (by simpa using h40)]
   have hs:ShE evs:=by
    have:evs.take i.toNat=evs:=List.take_of_length_le (by omega)
    rw [this] at h3; exact h3
   obtain ⟨x,hx,hv⟩:=chk_tot evs 0 0 b0 0 bb0 (by omega) hs
   rw [p_rCheck17 evs (by omega) hs,hx]
   exact .inl ⟨_,rfl,fun h=>⟨by omega,hs,hv (by simpa using h)⟩⟩
theorem awake21:f_w21_awake=some true:=by kernel_rfl
theorem live_nums {n:Nat} {w:W7} (h:WB n w):∀ s,s∈liveL w→s.numbers.length≤n:=fun s hs=>by
 obtain ⟨k,_,hk⟩:=List.mem_filterMap.1 hs
 exact (h.nums k s hk).1
theorem live_len {n:Nat} {w:W7} (h:WB n w):(liveL w).length≤n:=Nat.le_trans (List.length_filterMap_le ..) h.added
theorem p_Usage2 (evs:List Event) (r:Record) (id:Int) (hl:evs.length≤5000) (hs:Sm r):∃ w,stW r.start evs w0=some w∧f_enrich_Usage evs r id=some (useF (liveL w) r id):=by
 obtain ⟨w,a,h1,h2,h3⟩:=p_State evs r.start hl
 have:=p_Usage evs r id ⟨a,liveL w⟩ h3 (by have:=live_len h2; simp only; omega) (fun s hs'=>by have:=live_nums h2 s hs'; omega) hs
 exact ⟨w,h1,this⟩
theorem use_refl (u:Usage):eqVs (Usage.vals u) (Usage.vals u)=true:=by
 simp [Usage.vals,eqVs,eqV]
theorem p_short (r:Record):∃ c,f_w21_short r=some c∧(c=true→Sm r):=by
 unfold f_w21_short
 exact ⟨_,rfl,fun h=>by simp at h; exact ⟨by omega,by omega⟩⟩
abbrev idsB (b:Bk):List Int:=b.subs.map (·.id)
structure INV (n:Nat) (w:W7) (b:Bk):Prop where
 wb:WB n w
 bb:BB n b
 ids:(idsB b).Nodup
 asc:w.2.1.Pairwise (· < ·)
 mem:∀ k,k∈w.2.1↔k∈idsB b
 ev:∀ k,(alook w.2.2.2.2.1 k).getD false=true↔k∈idsB b
 look:∀ s,s∈b.subs→alook w.2.2.2.1 s.id=if s.id∈b.ended then none else some s
 keys:∀ k,k ∉ idsB b→alook w.2.2.2.1 k=none
 rng:∀ k,k∈idsB b→1≤k∧k≤9999
 endN:b.ended.Nodup
 endS:∀ k,k∈b.ended→k∈idsB b
 num:∀ s s' x,s∈b.subs→s'∈b.subs→x∈s.numbers→x∈s'.numbers→s.id=s'.id
 ne:∀ s,s∈b.subs→[] ∉ s.numbers
theorem inv0:INV 0 w0 b0:=⟨wb0,bb0,by simp [idsB,b0],by simp [w0],fun k=>by simp [w0,b0],fun k=>by simp [w0,b0,alook],fun s h=>by simp [b0] at h,fun k _=>by simp [w0,alook],fun k h=>by simp [b0] at h,by simp [b0],fun k h=>by simp [b0] at h,fun s s' x h=>by simp [b0] at h,fun s h=>by simp [b0] at h⟩
theorem set_ids (f:Sub→Int) (y:Sub):∀ (l:List Sub) (i:Nat),i < l.length→f y=f (nth l i)→(l.set i y).map f=l.map f
 | [],i,h,_=>by simp at h
 | a :: l,0,_,h=>by rw [nth_cons_zero] at h; simp [h]
 | a :: l,i+1,h,hy=>by
  rw [nth_cons_succ] at hy
  rw [List.set_cons_succ,List.map_cons,List.map_cons,set_ids f y l i (by rw [List.length_cons] at h; omega) hy]
theorem set_mem (y:Sub):∀ (l:List Sub) (i:Nat),i < l.length→(l.map (·.id)).Nodup→y.id=(nth l i).id→∀ s,s∈l.set i y→s=y∨(s∈l∧s.id≠y.id)
 | [],i,h,_,_,_,_=>by simp at h
 | a :: l,0,_,hn,h,s,hs=>by
  rw [nth_cons_zero] at h
  rw [List.set_cons_zero,List.mem_cons] at hs
  rw [List.map_cons,List.nodup_cons] at hn
  rcases hs with hs | hs
  ·exact .inl hs
  ·exact .inr ⟨List.mem_cons_of_mem _ hs,fun e=>hn.1 (by rw [←h,←e]; exact List.mem_map_of_mem hs)⟩
 | a :: l,i+1,h,hn,hy,s,hs=>by
  rw [nth_cons_succ] at hy
  rw [List.length_cons] at h
  rw [List.set_cons_succ,List.mem_cons] at hs
  rw [List.map_cons,List.nodup_cons] at hn
  rcases hs with rfl | hs
  ·exact .inr ⟨List.mem_cons_self ..,fun e=>hn.1 (by rw [e,hy]; exact List.mem_map_of_mem (nth_mem (by omega)))⟩
  ·rcases set_mem y l i (by omega) hn.2 hy s hs with h1 | ⟨h1,h2⟩
   ·exact .inl h1
   ·exact .inr ⟨List.mem_cons_of_mem _ h1,h2⟩
theorem chF_id (s:Sub) (e:Event):(chF s e).id=s.id:=by
 unfold chF; repeat' split
 all_goals rfl
theorem chB_id (s:Sub) (e:Event):(chB s e).id=s.id:=by
 unfold chB; split
 ·rfl
 ·exact chF_id s e
theorem rem_mem (x z:List UInt8) (l:List (List UInt8)) (h:z∈remF x l):z∈l:=(List.mem_filter.1 h).1
theorem chB_nums (s:Sub) (e:Event):∀ x,x∈(chB s e).numbers→(e.kind=5∧x=e.number)∨x∈s.numbers:=fun x hx=>by
 unfold chB chF at hx
 repeat' split at hx
 all_goals first | (simp at hx; done) | exact .inr hx | skip
 ·rename_i k5
  rcases (plc_mem _ _ _ _).1 hx with h | h
  ·exact .inl ⟨k5,h⟩
  ·exact .inr h
 ·exact .inr (rem_mem _ _ _ hx)
theorem sIdx_spec (b:Bk) (k:Int):(sIdx b k=-1∧k ∉ idsB b)∨(0≤sIdx b k∧sIdx b k < (b.subs.length:Int)∧(nth b.subs (sIdx b k).toNat).id=k):=by
 rcases idxF_spec (fun a:Sub=>a.id==k) b.subs 0 (by omega) with ⟨q,h⟩ | ⟨q1,q2,q3⟩
 ·refine .inl ⟨q,fun hm=>?_⟩
  obtain ⟨s,h1,h2⟩:=List.mem_map.1 hm
  have:=h s h1
  simp [h2] at this
 ·refine .inr ⟨q1,by unfold sIdx; omega,?_⟩
  rw [show (idxF (fun a:Sub=>a.id==k) b.subs 0-0).toNat=(sIdx b k).toNat from by unfold sIdx; omega] at q3
  simpa using q3
theorem plc_asc (x:Int):∀ (l:List Int),l.Pairwise (· < ·)→x ∉ l→(plcF ltI x l).Pairwise (· < ·)
 | [],_,_=>by simp [plcF]
 | y :: t,h,hx=>by
  rw [List.pairwise_cons] at h
  rw [List.mem_cons,not_or] at hx
  unfold plcF
  by_cases hy:ltI y x=true
  ·rw [if_pos hy,List.pairwise_cons]
   refine ⟨fun z hz=>?_,plc_asc x t h.2 hx.2⟩
   rcases (plc_mem _ _ _ _).1 hz with rfl | hz
   ·simpa [ltI] using hy
   ·exact h.1 z hz
  ·rw [if_neg hy,List.pairwise_cons,List.pairwise_cons]
   have hlt:x < y:=by simp [ltI] at hy; omega
   refine ⟨fun z hz=>?_,h⟩
   rcases List.mem_cons.1 hz with rfl | hz
   ·exact hlt
   ·have:=h.1 z hz; omega
theorem INV.up {n:Nat} {w:W7} {b:Bk} (h:INV n w b):INV (n+1) w b:={ h with wb:=h.wb.up,bb:=h.bb.up }
theorem INV.find {n:Nat} {w:W7} {b:Bk} (h:INV n w b) {s s':Sub} (hs:s∈b.subs) (hs':s'∈b.subs) (e:s.id=s'.id):s=s':=by
 have key:∀ (l:List Sub),(l.map (·.id)).Nodup→s∈l→s'∈l→s=s':=by
  intro l
  induction l with
  | nil=>intro _ h; simp at h
  | cons a l ih =>
   intro hn h1 h2
   rw [List.map_cons,List.nodup_cons] at hn
   rcases List.mem_cons.1 h1 with h3 | h3
   ·rcases List.mem_cons.1 h2 with h4 | h4
    ·rw [h3,h4]
    ·exact absurd (by rw [←h3,e]; exact List.mem_map_of_mem h4) hn.1
   ·rcases List.mem_cons.1 h2 with h4 | h4
    ·exact absurd (by rw [←h4,←e]; exact List.mem_map_of_mem h3) hn.1
    ·exact ih hn.2 h3 h4
 exact key _ h.ids hs hs'
theorem inv_step (n:Nat) (w:W7) (b:Bk) (e:Event) (last:Int) (h:INV n w b) (hn:n≤10000) (f:FaultOk b e last):∃ w' b',apO e w=some w'∧f_r17_Apply b e=some b'∧INV (n+1) w' b':=by
 obtain ⟨w',e1,hw,ea,es,ee⟩:=p_apply n e w h.wb hn
 obtain ⟨b',e2,hb,bs,be⟩:=p_Apply b e last n h.bb hn f
 refine ⟨w',b',e1,e2,?_⟩
 by_cases k0:e.kind=1∨e.kind=2∨e.kind=14∨e.kind=15
 ·have n3:¬e.kind=3:=by omega
  have n4:¬e.kind=4:=by omega
  unfold addF at ea; rw [if_neg (fun k=>n3 k.1)] at ea
  unfold subF at es; rw [if_neg n3,if_neg n4,if_pos k0] at es
  unfold evF at ee; rw [if_neg n3] at ee
  unfold subB at bs; rw [if_neg n3,if_pos k0] at bs
  unfold endB at be; rw [if_neg n4] at be
  have hi:idsB b'=idsB b:=by unfold idsB; rw [bs]
  exact ⟨hw,hb,by rw [hi]; exact h.ids,by rw [ea]; exact h.asc,by rw [ea,hi]; exact h.mem,by rw [ee,hi]; exact h.ev,by rw [es,bs,be]; exact h.look,by rw [es,hi]; exact h.keys,by rw [hi]; exact h.rng,by rw [be]; exact h.endN,by rw [be,hi]; exact h.endS,by rw [bs]; exact h.num,by rw [bs]; exact h.ne⟩
 by_cases k3:e.kind=3
 ·have n4:¬e.kind=4:=by omega
  have hadd:=f.add k3
  have hni:e.sub ∉ idsB b:=by
   rcases sIdx_spec b e.sub with ⟨_,q⟩ | ⟨q,_⟩
   ·exact q
   ·omega
  have hr:=f.form.sub k0
  have hev:(alook w.2.2.2.2.1 e.sub).getD false=false:=by
   cases hh:(alook w.2.2.2.2.1 e.sub).getD false with
   | false=>rfl
   | true=>exact absurd ((h.ev _).1 hh) hni
  unfold addF at ea; rw [if_pos ⟨k3,hev⟩] at ea
  unfold subF at es; rw [if_pos k3] at es
  unfold evF at ee; rw [if_pos k3] at ee
  unfold subB at bs; rw [if_pos k3] at bs
  unfold endB at be; rw [if_neg n4] at be
  have hi:idsB b'=idsB b++[e.sub]:=by unfold idsB; rw [bs,List.map_append]; rfl
  have hne:e.sub ∉ b.ended:=fun k=>hni (h.endS _ k)
  refine ⟨hw,hb,?_,?_,?_,?_,?_,?_,?_,?_,?_,?_,?_⟩
  ·rw [hi,List.nodup_append]
   exact ⟨h.ids,by simp,fun a ha c hc=>by rw [List.mem_singleton.1 hc]; exact fun q=>hni (q▸ha)⟩
  ·rw [ea]; exact plc_asc _ _ h.asc (fun k=>hni ((h.mem _).1 k))
  ·intro k; rw [ea,plc_mem,hi,List.mem_append,List.mem_singleton,h.mem k]; exact Or.comm
  ·intro k
   rw [ee,alook_aset,hi,List.mem_append,List.mem_singleton]
   by_cases hk:k=e.sub
   ·simp [hk]
   ·rw [if_neg (by simpa using hk),h.ev k]; simp [hk]
  ·intro s hs
   rw [bs,List.mem_append,List.mem_singleton] at hs
   rw [es,be,alook_aset]
   rcases hs with hs | rfl
   ·have:s.id≠e.sub:=fun q=>hni (by rw [←q]; exact List.mem_map_of_mem hs)
    rw [if_neg (by simpa using this)]; exact h.look s hs
   ·rw [if_pos (by simp [newSub]),if_neg (by simpa [newSub] using hne)]
  ·intro k hk
   rw [hi,List.mem_append,List.mem_singleton,not_or] at hk
   rw [es,alook_aset,if_neg (by simpa using hk.2)]; exact h.keys k hk.1
  ·intro k hk
   rw [hi,List.mem_append,List.mem_singleton] at hk
   rcases hk with hk | rfl
   ·exact h.rng k hk
   ·exact hr
  ·rw [be]; exact h.endN
  ·intro k hk
   rw [be] at hk
   rw [hi,List.mem_append]; exact .inl (h.endS k hk)
  ·intro s s' x hs hs' hx hx'
   rw [bs,List.mem_append,List.mem_singleton] at hs hs'
   rcases hs with hs | rfl
   ·rcases hs' with hs' | rfl
    ·exact h.num s s' x hs hs' hx hx'
    ·simp [newSub] at hx'
   ·simp [newSub] at hx
  ·intro s hs
   rw [bs,List.mem_append,List.mem_singleton] at hs
   rcases hs with hs | rfl
   ·exact h.ne s hs
   ·simp [newSub]
 obtain ⟨⟨s0,s1⟩,hne,h5⟩:=f.sub (by omega)
 have hid:(nth b.subs (sIdx b e.sub).toNat).id=e.sub:=by
  rcases sIdx_spec b e.sub with ⟨q,_⟩ | ⟨_,_,q⟩
  ·omega
  ·exact q
 have hsm:nth b.subs (sIdx b e.sub).toNat∈b.subs:=nth_mem (by omega)
 have hlt:(sIdx b e.sub).toNat < b.subs.length:=by omega
 generalize hi0:(sIdx b e.sub).toNat=i at hid hsm hlt
 generalize hs0:nth b.subs i=s at hid hsm
 unfold addF at ea; rw [if_neg (fun k=>k3 k.1)] at ea
 unfold evF at ee; rw [if_neg k3] at ee
 unfold subB at bs; rw [if_neg k3,if_neg k0,hi0,hs0] at bs
 have hci:(chB s e).id=s.id:=chB_id s e
 have hi:idsB b'=idsB b:=by unfold idsB; rw [bs]; exact set_ids _ _ _ _ hlt (by rw [hs0]; exact hci)
 have hmem:∀ z,z∈b'.subs→z=chB s e∨(z∈b.subs∧z.id≠e.sub):=fun z hz=>by
  rw [bs] at hz
  have:=set_mem _ _ _ hlt h.ids (by rw [hs0]; exact hci) z hz
  rwa [hci,hid] at this
 have hnn:∀ z z' x,z∈b'.subs→z'∈b'.subs→x∈z.numbers→x∈z'.numbers→z.id=z'.id:=fun z z' x hz hz' hx hx'=>by
  rcases hmem z hz with rfl | ⟨hz,hzi⟩
  ·rcases hmem z' hz' with rfl | ⟨hz',hzi'⟩
   ·rfl
   ·rcases chB_nums s e x hx with ⟨k5,rfl⟩ | hx
    ·exact absurd hx' (h5 k5 z' hz')
    ·rw [hci]; exact h.num s z' x hsm hz' hx hx'
  ·rcases hmem z' hz' with rfl | ⟨hz',hzi'⟩
   ·rcases chB_nums s e x hx' with ⟨k5,rfl⟩ | hx'
    ·exact absurd hx (h5 k5 z hz)
    ·rw [hci]; exact h.num z s x hz hsm hx hx'
   ·exact h.num z z' x hz hz' hx hx'
 have hne':∀ z,z∈b'.subs→[] ∉ z.numbers:=fun z hz hx=>by
  rcases hmem z hz with rfl | ⟨hz,_⟩
  ·rcases chB_nums s e [] hx with ⟨k5,hx⟩ | hx
   ·exact f.form.num k5 hx.symm
   ·exact h.ne s hsm hx
  ·exact h.ne z hz hx
 have hids:e.sub∈idsB b:=by rw [←hid]; exact List.mem_map_of_mem hsm
 by_cases k4:e.kind=4
 ·unfold subF at es; rw [if_neg k3,if_pos k4] at es
  unfold endB at be; rw [if_pos k4] at be
  refine ⟨hw,hb,by rw [hi]; exact h.ids,by rw [ea]; exact h.asc,by rw [ea,hi]; exact h.mem,by rw [ee,hi]; exact h.ev,?_,?_,by rw [hi]; exact h.rng,?_,?_,hnn,hne'⟩
  ·intro z hz
   rw [es,be,alook_aerase _ _ h.wb.keys]
   rcases hmem z hz with rfl | ⟨hz,hzi⟩
   ·rw [hci,hid,if_pos (by simp),if_pos (by simp)]
   ·rw [if_neg (by simpa using hzi),h.look z hz]
    simp [hzi]
  ·intro k hk
   rw [hi] at hk
   rw [es,alook_aerase _ _ h.wb.keys]
   split
   ·rfl
   ·exact h.keys k hk
  ·rw [be,List.nodup_append]
   exact ⟨h.endN,by simp,fun a ha c hc=>by rw [List.mem_singleton.1 hc]; exact fun q=>hne (q▸ha)⟩
  ·intro k hk
   rw [be,List.mem_append,List.mem_singleton] at hk
   rw [hi]
   rcases hk with hk | rfl
   ·exact h.endS k hk
   ·exact hids
 ·unfold subF at es; rw [if_neg k3,if_neg k4,if_neg k0] at es
  unfold endB at be; rw [if_neg k4] at be
  have hl:=h.look s hsm
  rw [hid,if_neg hne] at hl
  rw [hl] at es
  simp only at es
  have hch:chB s e=chF s e:=by unfold chB; rw [if_neg k4]
  refine ⟨hw,hb,by rw [hi]; exact h.ids,by rw [ea]; exact h.asc,by rw [ea,hi]; exact h.mem,by rw [ee,hi]; exact h.ev,?_,?_,by rw [hi]; exact h.rng,by rw [be]; exact h.endN,by rw [be,hi]; exact h.endS,hnn,hne'⟩
  ·intro z hz
   rw [es,be,alook_aset]
   rcases hmem z hz with rfl | ⟨hz,hzi⟩
   ·rw [hci,hid,if_pos (by simp),if_neg hne,hch]
   ·rw [if_neg (by simpa using hzi)]; exact h.look z hz
  ·intro k hk
   rw [hi] at hk
   have:k≠e.sub:=fun q=>hk (q▸hids)
   rw [es,alook_aset,if_neg (by simpa using this)]; exact h.keys k hk
def upB (t:Int):List Event→Bk→Option Bk
 | [],b=>some b
 | e :: l,b=>if e.at_≤t then (f_r17_Apply b e).bind (upB t l) else upB t l b
theorem vc_after:∀ (l:List Event) (b:Bk) (last:Int),VC b last l→∀ e,e∈l→last≤e.at_
 | [],_,_,_,e,h=>by simp at h
 | a :: l,b,last,h,e,he=>by
  obtain ⟨f,b',_,hv⟩:=h
  have h1:=f.form.at_
  rcases List.mem_cons.1 he with rfl | he
  ·exact h1
  ·have:=vc_after l b' a.at_ hv e he
   omega
theorem skip_all (t:Int) (w:W7) (b:Bk):∀ (l:List Event),(∀ e,e∈l→t < e.at_)→stW t l w=some w∧upB t l b=some b
 | [],_=>⟨rfl,rfl⟩
 | e :: l,h=>by
  have he:=h e (List.mem_cons_self ..)
  rw [stW,if_neg (by omega),upB,if_neg (by omega)]
  exact skip_all t w b l fun z hz=>h z (List.mem_cons_of_mem _ hz)
theorem inv_mono {n m:Nat} {w:W7} {b:Bk} (h:INV n w b) (hm:n≤m):INV m w b:=by
 induction m with
 | zero=>rwa [show n=0 from by omega] at h
 | succ m ih =>
  by_cases e:n=m+1
  ·rwa [e] at h
  ·exact (ih (by omega)).up
theorem run_rel (t:Int):∀ (l:List Event) (n:Nat) (w:W7) (b:Bk) (last:Int),INV n w b→n+l.length≤10000→VC b last l→∃ w' b',stW t l w=some w'∧upB t l b=some b'∧INV (n+l.length) w' b'
 | [],n,w,b,_,h,_,_=>⟨w,b,rfl,rfl,h⟩
 | e :: l,n,w,b,last,h,hn,hv=>by
  have hv0:=hv
  obtain ⟨f,b1,hb1,hv⟩:=hv
  rw [List.length_cons] at hn ⊢
  by_cases ht:e.at_≤t
  ·obtain ⟨w',b',e1,e2,hi⟩:=inv_step n w b e last h (by omega) f
   rw [hb1] at e2; cases e2
   obtain ⟨w2,b2,q1,q2,q3⟩:=run_rel t l (n+1) w' b1 e.at_ hi (by omega) hv
   refine ⟨w2,b2,?_,?_,?_⟩
   ·rw [stW,if_pos ht,e1]; exact q1
   ·rw [upB,if_pos ht,hb1]; exact q2
   ·rw [show n+(l.length+1)=n+1+l.length from by omega]; exact q3
  ·have hs:∀ z,z∈e :: l→t < z.at_:=fun z hz=>by
    rcases List.mem_cons.1 hz with rfl | hz
    ·omega
    ·have:=vc_after l b1 e.at_ hv z hz; omega
   obtain ⟨q1,q2⟩:=skip_all t w b _ hs
   exact ⟨w,b,q1,q2,inv_mono h (by omega)⟩
theorem p_Upto (evs:List Event) (t:Int) (b:Bk) (hl:evs.length≤10000) (h:upB t evs b0=some b):f_r17_Upto evs t=some b:=by
 unfold f_r17_Upto
 rw [←h]
 refine loop_rec0 (step:=fun s:Int×List Account×List Sub×List Int=>f_r17_Upto_l1 evs t s.1 s.2.1 s.2.2.1 s.2.2.2) evs (fun s=>s.1) (fun s r=>upB t r ⟨s.2.1,s.2.2.1,s.2.2.2⟩) (fun s r=>0≤s.1∧upB t r ⟨s.2.1,s.2.2.1,s.2.2.2⟩=some b) (by omega) ?_ ?_ (s:=(0,[],[],[])) rfl ⟨by simp,h⟩
 ·rintro ⟨i,a,s,en⟩ ⟨h1,_⟩ h2
  simp only at h1 h2
  refine ⟨_,?_,rfl⟩
  unfold f_r17_Upto_l1
  rw [if_neg (by simp only [decide_eq_true_eq]; omega)]
 ·rintro ⟨i,a,s,en⟩ e r ⟨h1,h2⟩ h3 h4 h5 h6
  simp only at h1 h2 h3 h4 h5 h6
  unfold f_r17_Upto_l1
  simp only
  rw [if_pos (by simpa using h4),ck_pos ⟨h3,h4⟩,h5]
  rw [upB] at h2 ⊢
  by_cases ha:e.at_≤t
  ·rw [if_pos ha] at h2 ⊢
   rw [if_pos (by simpa using ha),ck_pos ⟨h3,h4⟩]
   cases hb:f_r17_Apply ⟨a,s,en⟩ e with
   | none=>rw [hb] at h2; cases h2
   | some b' =>
    rw [hb] at h2
    rw [Option.bind_some,ck_pos ⟨by omega,by omega⟩]
    exact .inr ⟨(i+1,b'.accounts,b'.subs,b'.ended),rfl,⟨by simp only; omega,h2⟩,rfl,rfl⟩
  ·rw [if_neg ha] at h2 ⊢
   rw [if_neg (by simpa using ha),ck_pos ⟨by omega,by omega⟩]
   exact .inr ⟨(i+1,a,s,en),rfl,⟨by simp only; omega,h2⟩,rfl,rfl⟩
theorem nodup_len:∀ (l m:List Int),l.Nodup→(∀ k,k∈l→k∈m)→l.length≤m.length
 | [],m,_,_=>by simp
 | a :: l,m,hn,h=>by
  rw [List.nodup_cons] at hn
  have ha:=h a (List.mem_cons_self ..)
  have:=nodup_len l (m.erase a) hn.2 (fun k hk=>(List.mem_erase_of_ne (fun q=>hn.1 (by rw [←q]; exact hk))).2 (h k (List.mem_cons_of_mem _ hk)))
  rw [List.length_erase_of_mem ha] at this
  have:=List.length_pos_of_mem ha
  rw [List.length_cons]; omega
section state
variable {n:Nat} {w:W7} {b:Bk}
theorem INV.look_id (h:INV n w b) {k:Int} {s:Sub} (hs:alook w.2.2.2.1 k=some s):s∈b.subs∧s.id=k∧k ∉ b.ended:=by
 by_cases hk:k∈idsB b
 ·obtain ⟨z,h1,h2⟩:=List.mem_map.1 hk
  have:=h.look z h1
  rw [h2,hs] at this
  split at this
  ·cases this
  ·cases this
   exact ⟨h1,h2,by assumption⟩
 ·rw [h.keys k hk] at hs; cases hs
theorem INV.look_some (h:INV n w b) {k:Int} (hk:k∈idsB b) (he:k ∉ b.ended):∃ s,alook w.2.2.2.1 k=some s∧s∈b.subs∧s.id=k:=by
 obtain ⟨z,h1,h2⟩:=List.mem_map.1 hk
 have:=h.look z h1
 rw [h2,if_neg he] at this
 exact ⟨z,this,h1,h2⟩
theorem INV.look_none (h:INV n w b) {k:Int} (he:k∈b.ended):alook w.2.2.2.1 k=none:=by
 cases hs:alook w.2.2.2.1 k with
 | none=>rfl
 | some s=>exact absurd he (h.look_id hs).2.2
theorem INV.live_ids (h:INV n w b):∀ (l:List Int),(∀ k,k∈l→k∈idsB b)→(l.filterMap (alook w.2.2.2.1)).map (·.id)=l.filter fun k=>decide (k ∉ b.ended)
 | [],_=>rfl
 | k :: l,hl=>by
  have ih:=INV.live_ids h l fun z hz=>hl z (List.mem_cons_of_mem _ hz)
  by_cases he:k∈b.ended
  ·rw [List.filterMap_cons,h.look_none he,List.filter_cons,if_neg (by simpa using he)]; exact ih
  ·obtain ⟨s,h1,_,h3⟩:=h.look_some (hl k (List.mem_cons_self ..)) he
   rw [List.filterMap_cons,h1,List.filter_cons,if_pos (by simpa using he),List.map_cons,ih,h3]
theorem INV.liveIds (h:INV n w b):(liveL w).map (·.id)=w.2.1.filter fun k=>decide (k ∉ b.ended):=h.live_ids _ fun k hk=>(h.mem k).1 hk
theorem INV.addN (h:INV n w b):w.2.1.Nodup:=h.asc.imp fun h=>by omega
theorem INV.liveN (h:INV n w b):((liveL w).map (·.id)).Nodup:=by rw [h.liveIds]; exact List.Pairwise.filter _ h.addN
theorem INV.live_mem (h:INV n w b) {s:Sub} (hs:s∈liveL w):s∈b.subs∧s.id ∉ b.ended:=by
 obtain ⟨k,_,hk⟩:=List.mem_filterMap.1 hs
 obtain ⟨h1,h2,h3⟩:=h.look_id hk
 exact ⟨h1,by rw [h2]; exact h3⟩
theorem INV.count (h:INV n w b):(liveL w).length+b.ended.length≤b.subs.length:=by
 have:=nodup_len ((liveL w).map (·.id)++b.ended) (idsB b) (by
  rw [List.nodup_append]
  refine ⟨h.liveN,h.endN,fun a ha c hc=>?_⟩
  rw [h.liveIds,List.mem_filter] at ha
  intro q
  have:=ha.2
  simp at this
  exact this (q▸hc)) (fun k hk=>by
  rcases List.mem_append.1 hk with hk | hk
  ·rw [h.liveIds,List.mem_filter] at hk; exact (h.mem k).1 hk.1
  ·exact h.endS k hk)
 simpa [idsB] using this
theorem filter_lt:∀ (l:List Int) (k:Int),l.Pairwise (· < ·)→l.filter (fun z=>decide (z < k+1))=l.filter (fun z=>decide (z < k))++if k∈l then [k] else []
 | [],k,_=>rfl
 | a :: l,k,h=>by
  rw [List.pairwise_cons] at h
  have ih:=filter_lt l k h.2
  by_cases h1:a < k
  ·rw [List.filter_cons,if_pos (by simp; omega),List.filter_cons,if_pos (by simp; omega),ih,List.cons_append]
   have:(k∈a :: l)=(k∈l):=by simp; intro q; omega
   simp only [this]
  ·have hz:∀ z,z∈l→¬z < k:=fun z hz=>by have:=h.1 z hz; omega
   have e1:l.filter (fun z=>decide (z < k))=[]:=List.filter_eq_nil_iff.2 fun z hz'=>by simpa using hz z hz'
   by_cases h2:a=k
   ·have e2:l.filter (fun z=>decide (z < k+1))=[]:=List.filter_eq_nil_iff.2 fun z hz'=>by have:=h.1 z hz'; simp; omega
    rw [List.filter_cons,if_pos (by simp; omega),List.filter_cons,if_neg (by simp; omega),e1,e2,h2,if_pos (List.mem_cons_self ..)]; rfl
   ·have hk:k ∉ l:=fun q=>hz k q (by have:=h.1 k q; omega)
    rw [List.filter_cons,if_neg (by simp; omega),List.filter_cons,if_neg (by simp; omega),ih]
    have:k ∉ a :: l:=by simp; exact ⟨fun q=>h2 q.symm,hk⟩
    rw [if_neg hk,if_neg this]
theorem p_accs (b:Bk) (L:List Sub) (h1:b.accounts.length≤100000) (h2:L.length≤100000):∃ a,f_r17_State_j1 b L=some ⟨a,L⟩:=by
 unfold f_r17_State_j1
 have:=loop_post (step:=fun s:Int×List Account=>f_r17_State_l1 b L s.1 s.2) (fun c=>c.subs=L) (fun s=>1≤s.1∧s.1≤10000∧s.2.length≤100000) (fun s=>(10000-s.1).toNat) ?_ (s:=(1,[])) ⟨by omega,by omega,by simp⟩ (by omega)
 ·obtain ⟨c,hc,e⟩:=this
  exact ⟨c.accounts,by rw [hc,←e]⟩
 rintro ⟨k,a⟩ ⟨k1,k2,k3⟩
 simp only at k1 k2 k3
 unfold f_r17_State_l1
 by_cases c:k≤9999∧(a.length:Int) < (b.accounts.length:Int)
 ·rw [if_pos (by simpa using c),p_account b k (by omega),Option.bind_some]
  split
  ·rw [ck_pos ⟨by omega,by omega⟩]
   exact .inr ⟨(k+1,a),rfl,⟨by simp only; omega,by simp only; omega,k3⟩,by simp only; omega⟩
  ·rename_i hn
   have sp:0≤idxF (fun a:Account=>a.id==k) b.accounts 0∧idxF (fun a:Account=>a.id==k) b.accounts 0 < (b.accounts.length:Int):=by
    simp at hn
    rcases idxF_spec (fun a:Account=>a.id==k) b.accounts 0 (by omega) with ⟨q,_⟩ | ⟨q1,q2,_⟩
    ·omega
    ·omega
   rw [ck_pos sp]
   generalize idxF (fun a:Account=>a.id==k) b.accounts 0=y
   have:=loop_post (step:=fun s:Int×List Int=>f_r17_State_l2 b L k a y s.1 s.2) (fun r=>∃ x,r=.inl (k+1,a++[x])) (fun s=>0≤s.1∧s.1≤(L.length:Int)∧(s.2.length:Int)≤s.1) (fun s=>((L.length:Int) - s.1).toNat) ?_ (s:=(0,[])) ⟨by simp,by simp,by simp⟩ (by simp; omega)
   ·obtain ⟨r,hr,x,rfl⟩:=this
    exact .inr ⟨(k+1,a++[x]),hr,⟨by simp only; omega,by simp only; omega,by simp only [List.length_append,List.length_singleton]; omega⟩,by simp only; omega⟩
   rintro ⟨i,o⟩ ⟨i1,i2,i3⟩
   simp only at i1 i2 i3
   unfold f_r17_State_l2
   by_cases hi:i < (L.length:Int)
   ·rw [if_pos (by simpa using hi),ck_pos ⟨i1,hi⟩]
    split
    ·rw [ck_pos ⟨i1,hi⟩,ck_pos (by simp only [List.length_singleton]; omega),ck_pos ⟨by omega,by omega⟩]
     exact .inr ⟨(i+1,o++[(nth L i.toNat).id]),rfl,⟨by simp only; omega,by simp only; omega,by simp only [List.length_append,List.length_singleton]; omega⟩,by simp only; omega⟩
    ·rw [ck_pos ⟨by omega,by omega⟩]
     exact .inr ⟨(i+1,o),rfl,⟨by simp only; omega,by simp only; omega,by simp only; omega⟩,by simp only; omega⟩
   ·rw [if_neg (by simpa using hi)]
    unfold f_r17_State_j2
    rw [ck_pos (by simp only [List.length_singleton]; omega),ck_pos ⟨by omega,by omega⟩]
    exact .inl ⟨_,rfl,_,rfl⟩
 ·rw [if_neg (by simpa using c)]
  exact .inl ⟨_,rfl,rfl⟩
theorem p_rState (evs:List Event) (t:Int) (hl:evs.length≤10000) (hu:upB t evs b0=some b) (h:INV n w b) (hn:n≤10000):∃ a,f_r17_State evs t=some ⟨a,liveL w⟩:=by
 unfold f_r17_State
 rw [p_Upto evs t b hl hu,Option.bind_some]
 have hs:=h.bb.subs
 have ha:=h.bb.accs
 have he:=h.bb.ended
 have hc:=h.count
 let A:Int→List Sub:=fun k=>(w.2.1.filter fun z=>decide (z < k)).filterMap (alook w.2.2.2.1)
 have sub:∀ k,(A k).Sublist (liveL w):=fun k=>List.Sublist.filterMap _ (List.filter_sublist ..)
 have lenA:∀ k,(A k).length≤(liveL w).length:=fun k=>(sub k).length_le
 have:=loop_post (step:=fun s:Int×List Sub=>f_r17_State_l3 b s.1 s.2) (fun c=>c.subs=liveL w) (fun s=>1≤s.1∧s.1≤10000∧s.2=A s.1) (fun s=>(10000-s.1).toNat) ?_ (s:=(1,[])) ⟨by omega,by omega,?_⟩ (by omega)
 ·obtain ⟨c,hc,e⟩:=this
  exact ⟨c.accounts,by rw [hc,←e]⟩
 ·rintro ⟨k,l⟩ ⟨k1,k2,k3⟩
  simp only at k1 k2 k3
  subst k3
  have hlA:=lenA k
  unfold f_r17_State_l3
  rw [ck_pos (fun _=>⟨by omega,by omega⟩)]
  by_cases c:k≤9999∧((A k).length:Int) < (b.subs.length:Int) - (b.ended.length:Int)
  ·rw [if_pos (by simpa using c),p_bsub b k (by omega),Option.bind_some,p_ended b k (by omega),gcall_mk,Option.bind_some]
   have hA:A (k+1)=A k++(if k∈w.2.1 then [k] else []).filterMap (alook w.2.2.2.1):=by
    show (w.2.1.filter fun z=>decide (z < k+1)).filterMap _=_
    rw [filter_lt _ _ h.asc,List.filterMap_append]
   rcases sIdx_spec b k with ⟨q1,q2⟩ | ⟨q1,q2,q3⟩
   ·rw [q1]
    simp only [show decide ((-1:Int)≥0)=false from rfl,Bool.false_and,Bool.false_eq_true,if_false]
    rw [ck_pos ⟨by omega,by omega⟩]
    refine .inr ⟨(k+1,A k),rfl,⟨by simp only; omega,by simp only; omega,?_⟩,by simp only; omega⟩
    simp only
    rw [hA,if_neg (fun m=>q2 ((h.mem k).1 m))]; simp
   ·have d1:decide (sIdx b k≥0)=true:=by simpa using q1
    have hm:nth b.subs (sIdx b k).toNat∈b.subs:=nth_mem (by omega)
    have hk:k∈idsB b:=by rw [←q3]; exact List.mem_map_of_mem hm
    rw [if_pos ((h.mem k).2 hk)] at hA
    simp only [d1,if_true,Bool.true_and]
    by_cases hen:k∈b.ended
    ·simp only [hen,decide_true,Bool.not_true,Bool.false_eq_true,if_false]
     rw [ck_pos ⟨by omega,by omega⟩]
     refine .inr ⟨(k+1,A k),rfl,⟨by simp only; omega,by simp only; omega,?_⟩,by simp only; omega⟩
     simp only
     rw [hA,List.filterMap_cons,h.look_none hen]; simp
    ·simp only [hen,decide_false,Bool.not_false,if_true]
     rw [ck_pos ⟨q1,q2⟩,ck_pos (by simp only [List.length_singleton]; omega),ck_pos ⟨by omega,by omega⟩]
     refine .inr ⟨(k+1,A k++[nth b.subs (sIdx b k).toNat]),rfl,⟨by simp only; omega,by simp only; omega,?_⟩,by simp only; omega⟩
     simp only
     have hl:=h.look _ hm
     rw [q3,if_neg hen] at hl
     rw [hA,List.filterMap_cons,hl]; simp
  ·rw [if_neg (by simpa using c)]
   obtain ⟨a,ha⟩:=p_accs b (A k) (by omega) (by omega)
   rw [ha]
   refine .inl ⟨_,rfl,?_⟩
   simp only
   by_cases hk:k≤9999
   ·exact (sub k).eq_of_length_le (by omega)
   ·show (w.2.1.filter fun z=>decide (z < k)).filterMap _=_
    rw [List.filter_eq_self.2 fun z hz=>by have:=h.rng z ((h.mem z).1 hz); simp; omega]
    rfl
 ·show []=(w.2.1.filter fun z=>decide (z < 1)).filterMap _
  rw [List.filter_eq_nil_iff.2 fun z hz=>by have:=h.rng z ((h.mem z).1 hz); simp; omega]
  rfl
end state
def ownR (x:List UInt8) (L:List Sub):Option Sub:=L.find? fun s=>decide (x∈s.numbers)
theorem foldl_aset (id:Int) (x:List UInt8):∀ (ns:List (List UInt8)) (o:List ((List UInt8)×Int)),alook (ns.foldl (fun o n=>aset o n id) o) x=if x∈ns then some id else alook o x
 | [],o=>by simp
 | a :: ns,o=>by
  rw [List.foldl_cons,foldl_aset id x ns,alook_aset]
  by_cases h:x∈ns
  ·rw [if_pos h,if_pos (List.mem_cons_of_mem _ h)]
  ·rw [if_neg h]
   by_cases h2:x=a
   ·rw [if_pos (by simpa using h2),if_pos (by rw [h2]; exact List.mem_cons_self ..)]
   ·rw [if_neg (by simpa using h2),if_neg (by simp [h,h2])]
theorem owF_look (x:List UInt8):∀ (L:List Sub) (o:List ((List UInt8)×Int)),(∀ s s',s∈L→s'∈L→x∈s.numbers→x∈s'.numbers→s.id=s'.id)→alook (owF L o) x=match ownR x L with | some s=>some s.id | none=>alook o x
 | [],o,_=>rfl
 | s :: l,o,h=>by
  have ih:=owF_look x l (s.numbers.foldl (fun o n=>aset o n s.id) o) fun a b ha hb=>h a b (List.mem_cons_of_mem _ ha) (List.mem_cons_of_mem _ hb)
  unfold owF
  rw [ih]
  unfold ownR
  rw [List.find?_cons]
  by_cases hx:x∈s.numbers
  ·rw [show decide (x∈s.numbers)=true from by simpa using hx]
   simp only
   cases hf:l.find? fun s=>decide (x∈s.numbers) with
   | none=>simp only [foldl_aset,hx,if_true]
   | some s' =>
    have h1:=List.mem_of_find?_eq_some hf
    have h2:=List.find?_some hf
    simp only
    rw [h s s' (List.mem_cons_self ..) (List.mem_cons_of_mem _ h1) hx (by simpa using h2)]
  ·rw [show decide (x∈s.numbers)=false from by simpa using hx]
   simp only
   cases hf:l.find? fun s=>decide (x∈s.numbers) with
   | none=>simp only [foldl_aset,hx,if_false]
   | some s'=>rfl
theorem fstS_mem:∀ (L:List Sub),(L.map (·.id)).Nodup→∀ s,s∈L→fstS s.id L=(s,true)
 | [],_,s,h=>by simp at h
 | a :: l,hn,s,h=>by
  rw [List.map_cons,List.nodup_cons] at hn
  unfold fstS
  rcases List.mem_cons.1 h with rfl | h
  ·rw [if_pos rfl]
  ·rw [if_neg (fun q=>hn.1 (by rw [q]; exact List.mem_map_of_mem h))]
   exact fstS_mem l hn.2 s h
section state
variable {n:Nat} {w:W7} {b:Bk}
theorem INV.own (h:INV n w b) (x:List UInt8):ownF (liveL w) x=match ownR x (liveL w) with | some s=>(s,true) | none=>(noSub,false):=by
 unfold ownF
 rw [owF_look x _ _ fun s s' hs hs'=>h.num s s' x (h.live_mem hs).1 (h.live_mem hs').1]
 cases hf:ownR x (liveL w) with
 | none=>simp [alook]
 | some s =>
  simp only
  exact fstS_mem _ h.liveN s (List.mem_of_find?_eq_some hf)
theorem p_rOwner (evs:List Event) (x:List UInt8) (t:Int) (hl:evs.length≤10000) (hu:upB t evs b0=some b) (h:INV n w b) (hn:n≤10000):f_r18_Owner evs x t=some (match ownR x (liveL w) with | some s=>(s.id,true) | none=>(0,false)):=by
 unfold f_r18_Owner
 obtain ⟨a,ha⟩:=p_rState evs t hl hu h hn
 rw [ha,Option.bind_some]
 have hlen:=live_len h.wb
 have hnum:=live_nums h.wb
 refine loop_rec0 (step:=fun s:Int=>f_r18_Owner_l1 x ⟨a,liveL w⟩ s) (liveL w) (fun s=>s) (fun s r=>some (match ownR x r with | some s=>(s.id,true) | none=>(0,false))) (fun s r=>0≤s∧∀ z,z∈r→z.numbers.length≤10000) (by omega) ?_ ?_ (s:=0) rfl ⟨by omega,fun z hz=>by have:=hnum z hz; omega⟩
 ·rintro i ⟨h1,_⟩ h2
  refine ⟨_,?_,rfl⟩
  unfold f_r18_Owner_l1
  rw [if_neg (by simp only [decide_eq_true_eq]; omega)]
  rfl
 ·rintro i s r ⟨h1,h2⟩ h3 h4 h5 h6
  have hs:=h2 s (List.mem_cons_self ..)
  unfold f_r18_Owner_l1
  rw [if_pos (by simpa using h4),ck_pos ⟨h3,h4⟩,h5,p_Has _ _ (by omega),Option.bind_some]
  by_cases hx:x∈s.numbers
  ·rw [if_pos (by simpa using hx),ck_pos ⟨h3,h4⟩]
   refine .inl ⟨_,rfl,?_⟩
   unfold ownR
   rw [List.find?_cons,show decide (x∈s.numbers)=true from by simpa using hx]
  ·rw [if_neg (by simpa using hx),ck_pos ⟨by omega,by omega⟩]
   refine .inr ⟨i+1,rfl,⟨by omega,fun z hz=>h2 z (List.mem_cons_of_mem _ hz)⟩,rfl,?_⟩
   unfold ownR
   rw [List.find?_cons,show decide (x∈s.numbers)=false from by simpa using hx]
theorem p_rSub (evs:List Event) (s:Sub) (t:Int) (hl:evs.length≤10000) (hu:upB t evs b0=some b) (h:INV n w b) (hn:n≤10000) (hs:s∈liveL w):f_r17_Sub evs s.id t=some (s,true):=by
 unfold f_r17_Sub
 have h1:=h.bb.subs
 have h2:=h.bb.ended
 obtain ⟨m,e⟩:=h.live_mem hs
 rw [p_Upto evs t b hl hu,Option.bind_some,p_bsub b _ (by omega),Option.bind_some,p_ended b _ (by omega),gcall_mk,Option.bind_some]
 rcases sIdx_spec b s.id with ⟨_,q⟩ | ⟨q1,q2,q3⟩
 ·exact absurd (List.mem_map_of_mem m) q
 ·rw [show decide (sIdx b s.id < 0)=false from by simp; omega,show decide (s.id∈b.ended)=false from by simpa using e]
  simp only [Bool.not_false,if_true,Bool.or_self,Bool.false_eq_true,if_false]
  rw [ck_pos ⟨q1,q2⟩,h.find (nth_mem (by omega)) m q3]
end state
theorem few_run (evs:List Event) (t:Int) (hl:evs.length≤40) (hv:VC b0 0 evs):∃ w b,stW t evs w0=some w∧upB t evs b0=some b∧INV evs.length w b:=by
 obtain ⟨w,b,h1,h2,h3⟩:=run_rel t evs 0 w0 b0 0 inv0 (by omega) hv
 rw [Nat.zero_add] at h3
 exact ⟨w,b,h1,h2,h3⟩
theorem errF_part (r:Record) (h:errF r=0) (p:r.part=0):r.call=0∧r.last=false:=by
 unfold errF at h
 repeat' split at h
 all_goals first | omega | skip
 rename_i h8 _ _
 refine ⟨by omega,?_⟩
 cases hl:r.last with
 | false=>rfl
 | true=>exact absurd (.inr ⟨hl,p⟩) h8
theorem fields_true (evs:List Event) (r:Record) (id:Int):f_w21_EnrichFields evs r id=some true:=by
 unfold f_w21_EnrichFields
 obtain ⟨c,h1,h2⟩:=p_Few evs
 obtain ⟨d,h3,h4⟩:=p_short r
 rw [h1,h3,awake21]
 simp only [Option.bind_some,gcall_mk]
 cases c with
 | false=>rfl
 | true =>
  cases d with
  | false=>rfl
  | true =>
   obtain ⟨hl,_,hv⟩:=h2 rfl
   have hs:=h4 rfl
   simp only [Bool.not_true,Bool.not_false,if_true,Bool.or_self,Bool.false_eq_true,if_false]
   obtain ⟨w,b,q1,q2,q3⟩:=few_run evs r.start hl hv
   obtain ⟨w',b1,b2⟩:=p_Usage2 evs r id (by omega) hs
   rw [q1] at b1; cases b1
   rw [b2,Option.bind_some]
   by_cases hz:(useF (liveL w) r id).2=0
   ·rw [if_neg (by simpa using hz)]
    have e0:errF r=0:=by
     unfold useF at hz
     split at hz
     ·exact hz
     ·omega
    have p0:r.part=0:=by
     unfold useF at hz
     rw [if_neg (show ¬(errF r≠0) from fun k=>k e0)] at hz
     split at hz
     ·simp at hz
     ·omega
    obtain ⟨c0,l0⟩:=errF_part r e0 p0
    have own:=q3.own (numF r)
    unfold useF at hz
    rw [if_neg (show ¬(errF r≠0) from fun k=>k e0),if_neg (show ¬(r.part≠0) from fun k=>k p0)] at hz
    have key:f_w21_EnrichFields_j1 evs r id (useF (liveL w) r id) (numF r)=some true:=by
     unfold f_w21_EnrichFields_j1
     cases hf:ownR (numF r) (liveL w) with
     | none =>
      rw [hf] at own
      simp only at own
      rw [own] at hz
      simp at hz
     | some s =>
      have hm:=List.mem_of_find?_eq_some hf
      rw [hf] at own
      simp only at own
      rw [own] at hz
      simp only [Bool.true_eq_false,if_false] at hz
      have hns:¬(s.suspended=true∧r.inbound=false):=fun q=>by rw [if_pos q] at hz; simp at hz
      have hu:useF (liveL w) r id=(⟨id,r.kind,s.account,s.id,r.a,r.b,r.start,r.units,r.trunk,r.inbound,r.source,r.serial⟩,0):=by
       unfold useF
       rw [if_neg (show ¬(errF r≠0) from fun k=>k e0),if_neg (show ¬(r.part≠0) from fun k=>k p0),own]
       simp only [Bool.true_eq_false,if_false]
       rw [if_neg hns]
      rw [hu,p_rOwner evs _ _ (by omega) q2 q3 (by omega),hf,Option.bind_some]
      simp only
      rw [p_rSub evs s _ (by omega) q2 q3 (by omega) hm,Option.bind_some,awake21]
      unfold f_r21_Record
      simp only [beq_self_eq_true,Bool.and_self,Bool.true_and,gcall_mk,if_true,Option.bind_some]
      have hr:(⟨r.source,r.serial,r.kind,r.a,r.b,r.start,r.units,0,0,false,r.trunk,r.inbound⟩:Record)=r:=by
       obtain ⟨x1,x2,x3,x4,x5,x6,x7,x8,x9,x10,x11,x12⟩:=r
       simp only at c0 l0 p0
       subst c0; subst l0; subst p0; rfl
      rw [hr]
      have he:eqVs (Record.vals r) (Record.vals r)=true:=by simp [Record.vals,eqVs,eqV]
      rw [he]; simp
    split
    ·rename_i hi
     rw [show numF r=r.b from by unfold numF; rw [if_pos hi]] at key
     exact key
    ·rename_i hi
     rw [show numF r=r.a from by unfold numF; rw [if_neg hi]] at key
     exact key
   ·rw [if_pos (by simpa using hz)]
    have hu:(useF (liveL w) r id).1=noUse:=by
     unfold useF at hz ⊢
     repeat' split
     all_goals first | rfl | (exfalso; simp_all)
    rw [hu,show (⟨0,0,0,0,([]:List UInt8),([]:List UInt8),0,0,0,false,0,0⟩:Usage)=noUse from rfl,use_refl]
    rfl
end Go.Proofs.YtnjdcednocmcnaaDoor
namespace Go.Abs
open Go.RowKit Go.ChangeShapes Go.WideShapes Go.Deep
inductive Sh where
 | i (k:IntKind)
 | b
 | s
 | sl (row:List Sh)
inductive DFits:Sh→D→Prop where
 | i (k:IntKind) (n:Int) (h:(Lit.int k n).wf=true):DFits (.i k) (.ex (.int k n))
 | b (x:Bool):DFits .b (.ex (.bool x))
 | s (l:List UInt8) (h:l.length≤maxLen):DFits .s (.ex (.string ⟨l.toArray⟩))
 | sl (row:List Sh) (rows:List (List D)) (hn:rows.length≤maxLen) (h1:∀ r,r∈rows→r.length=row.length)
   (h:∀ r,r∈rows→∀ (i:Nat) sh d,row[i]?=some sh→r[i]?=some d→DFits sh d):DFits (.sl row) (.sl row.length rows)
def shapeFs (P:Program) (rec:TypeId→Option (List Sh)):List Field→Nat→Option (List Sh)
 | [],_=>some []
 | f :: fs,off=>match rec f.type with
  | some r=>if Nat.beq f.offset off && Nat.beq r.length (P.cellsOf f.type) then (shapeFs P rec fs (off+r.length)).map (r++·) else none
  | none=>none
def shape (P:Program):Nat→TypeId→Option (List Sh)
 | 0,_=>none
 | n+1,t=>match P.underlying t with
  | some (.int k)=>some [.i k]
  | some .bool=>some [.b]
  | some .string=>some [.s]
  | some (.slice e)=>match shape P n e with
   | some r=>if Nat.beq r.length (P.cellsOf e) && Nat.blt 0 r.length then some [.sl r] else none
   | none=>none
  | some (.struct fs)=>match shapeFs P (shape P n) fs.toList 0 with
   | some r=>if Nat.beq r.length (P.cellsOf t) then some r else none
   | none=>none
  | _=>none
def Opens (lim:Nat→Nat) (w:World) (shs:List Sh) (cs:List Value):Prop :=
 ∃ ds:List D,ds.length=shs.length∧cs.length=shs.length∧∀ (i:Nat) sh d c,shs[i]?=some sh→ds[i]?=some d→cs[i]?=some c→DFits sh d∧DRep lim w d c∧c.oneCell'=true
theorem Opens.one {lim:Nat→Nat} {w:World} {sh:Sh} {d:D} {c:Value} (h1:DFits sh d) (h2:DRep lim w d c) (h3:c.oneCell'=true):Opens lim w [sh] [c]:=by
 refine ⟨[d],rfl,rfl,fun i sh' d' c' ha hb hc=>?_⟩
 cases i with
 | zero=>simp at ha hb hc; subst ha; subst hb; subst hc; exact ⟨h1,h2,h3⟩
 | succ i=>simp at ha
theorem Opens.nil {lim:Nat→Nat} {w:World}:Opens lim w [] []:=⟨[],rfl,rfl,fun i _ _ _ h=>by simp at h⟩
theorem Opens.append {lim:Nat→Nat} {w:World} {s1 s2:List Sh} {c1 c2:List Value} (h:Opens lim w s1 c1) (k:Opens lim w s2 c2):Opens lim w (s1++s2) (c1++c2):=by
 obtain ⟨d1,a1,b1,e1⟩:=h
 obtain ⟨d2,a2,b2,e2⟩:=k
 refine ⟨d1++d2,by simp [a1,a2],by simp [b1,b2],fun i sh d c ha hb hc=>?_⟩
 by_cases hi:i < s1.length
 ·rw [List.getElem?_append_left hi] at ha
  rw [List.getElem?_append_left (by omega)] at hb hc
  exact e1 i sh d c ha hb hc
 ·rw [List.getElem?_append_right (by omega)] at ha hb hc
  rw [a1] at hb
  rw [b1] at hc
  exact e2 _ sh d c ha hb hc
section opening
variable {H:Type} {enc:TypeId×Value→H} {P:Program} {w:World} {held:Bool} {lim:Nat→Nat}
theorem opens_fields {rec:TypeId→Option (List Sh)} (cs:List Value):∀ (fs:List Field) (off:Nat) (shs:List Sh),shapeFs P rec fs off=some shs→cs.length=off+shs.length →
  (∀ (i:Nat) f,fs[i]?=some f→∀ r,rec f.type=some r→r.length=P.cellsOf f.type→Opens lim w r ((cs.drop f.offset).take (P.cellsOf f.type)))→Opens lim w shs (cs.drop off)
 | [],off,shs,h,hl,_=>by
  simp [shapeFs] at h; subst h
  rw [List.drop_of_length_le (by simp at hl; omega)]
  exact .nil
 | f :: fs,off,shs,h,hl,hf=>by
  unfold shapeFs at h
  split at h
  ·rename_i r hr
   split at h
   ·rename_i hc
    rw [Bool.and_eq_true] at hc
    replace hc:=And.intro (Nat.eq_of_beq_eq_true hc.1) (Nat.eq_of_beq_eq_true hc.2)
    obtain ⟨rest,hrest,rfl⟩:=Option.map_eq_some_iff.1 h
    simp only [List.length_append] at hl
    have h1:=hf 0 f rfl r hr hc.2
    have h2:=opens_fields cs fs (off+r.length) rest hrest (by omega) fun i g hg=>hf (i+1) g (by simpa using hg)
    have e:cs.drop off=(cs.drop f.offset).take (P.cellsOf f.type)++cs.drop (off+r.length):=by
     rw [hc.1,←hc.2,←List.drop_drop,List.take_append_drop]
    rw [e]
    exact h1.append h2
   ·cases h
  ·cases h
theorem opens_shape (hlim:∀ b off u,w.cell? ⟨b,off,none⟩=some u→off < lim b):∀ (n:Nat) (t:TypeId) (shs:List Sh),shape P n t=some shs→∀ fuel cs x,DataW.trod enc P w 0 (fun _=>true) held fuel t cs=some x→Opens lim w shs cs
 | 0,_,_,h=>by simp [shape] at h
 | n+1,t,shs,h=>by
  intro fuel cs x ht
  unfold shape at h
  split at h
  ·rename_i k hu
   cases h
   obtain ⟨m,rfl,_,hw⟩:=DataW.trod_int hu ht
   exact .one (.i k m hw) (.ex _) rfl
  ·rename_i hu
   cases h
   obtain ⟨b,rfl,_⟩:=DataW.trod_bool hu ht
   exact .one (.b b) (.ex _) rfl
  ·rename_i hu
   cases h
   obtain ⟨⟨a⟩,rfl,_,hs⟩:=DataW.trod_string hu ht
   exact .one (.s a.toList (by simpa [ByteArray.size] using hs)) (.ex _) rfl
  ·rename_i e hu
   split at h
   ·rename_i r hr
    split at h
    ·rename_i hc
     cases h
     rw [Bool.and_eq_true] at hc
     obtain ⟨hc1,hc2⟩:=And.intro (Nat.eq_of_beq_eq_true hc.1) (blt_lt hc.2)
     rcases open_slice hu ht with ⟨rfl,_⟩ | ⟨a,len,cap,m,n',D0,Pl,rfl,hb,hl,hm,hmm,hx,hi⟩
     ·exact .one (.sl r [] (Nat.zero_le _) (fun _ h=>by cases h) (fun _ h=>by cases h)) (.nil _ _) rfl
     ·simp only [if_true] at hmm
      subst hmm
      obtain ⟨F,hF⟩:=choose_lt (n:=m) (p:=fun i (ds:List D)=>ds.length=r.length∧∀ (j:Nat) sh d,r[j]?=some sh→ds[j]?=some d→∃ c,w.cell? (a.add (i*r.length+j))=some c∧DFits sh d∧DRep lim w d c∧c.oneCell'=true) (fun i hi'=>by
       obtain ⟨cs',h1,h2⟩:=hi i hi'
       obtain ⟨ds,k1,k2,k3⟩:=opens_shape hlim n e r hr n' cs' _ h2
       obtain ⟨_,h3,h4⟩:=World.cells?_some h1
       refine ⟨ds,k1,fun j sh d hj hd=>?_⟩
       have hjl:j < r.length:=(List.getElem?_eq_some_iff.1 hj).1
       have hc':cs'[j]?=some (cs'[j]'(by omega)):=List.getElem?_eq_getElem (by omega)
       refine ⟨cs'[j]'(by omega),?_,k3 j sh d _ hj hd hc'⟩
       rw [←hc',←h4 j (by omega),←hc1,Go.Deep.add_add])
      have hfit:DFits (.sl r) (.sl r.length ((List.range len).map F)):=by
       refine .sl r _ (by simp; omega) (fun row hrow=>?_) fun row hrow i sh d hs hd=>?_
       ·obtain ⟨i,hi2,rfl⟩:=List.mem_map.1 hrow
        exact (hF i (by have:=List.mem_range.1 hi2; omega)).1
       ·obtain ⟨i',hi2,rfl⟩:=List.mem_map.1 hrow
        obtain ⟨c,_,hh,_⟩:=(hF i' (by have:=List.mem_range.1 hi2; omega)).2 i sh d hs hd
        exact hh
      refine .one hfit ?_ rfl
      rcases Nat.eq_zero_or_pos m with h0 | h0
      ·subst h0
       have:len=0:=by omega
       subst this
       exact .nil _ _
      ·have hspot:a.spot=none:=by
        obtain ⟨cs',h1,h2⟩:=hi 0 h0
        obtain ⟨_,h3,h4⟩:=World.cells?_some h1
        have h5:=h4 0 (by omega)
        have h6:cs'[0]?=some (cs'[0]'(by omega)):=List.getElem?_eq_getElem (by omega)
        rw [h6] at h5
        unfold World.cell? at h5
        split at h5
        ·split at h5
         ·cases h5
         ·rename_i hsp
          simpa [Addr.add] using hsp
        ·cases h5
       obtain ⟨b,off,sp⟩:=a
       simp only at hspot
       subst hspot
       have hcell:∀ i j,i < m→j < r.length→∀ sh d,r[j]?=some sh→(F i)[j]?=some d→∃ c,w.cell? ⟨b,off+(i*r.length+j),none⟩=some c∧DFits sh d∧DRep lim w d c∧c.oneCell'=true:=fun i j hi' hj sh d hs hd=>by
        obtain ⟨c,h1,h2⟩:=(hF i hi').2 j sh d hs hd
        rw [Addr.add_lit] at h1
        exact ⟨c,h1,h2⟩
       have hlen:((List.range len).map F).length=len:=by simp
       have key:=DRep.sl (lim:=lim) (w:=w) r.length ((List.range len).map F) b off m (by rw [hlen]; exact hl) (fun row hrow=>by
        obtain ⟨i,hi2,rfl⟩:=List.mem_map.1 hrow
        exact (hF i (by have:=List.mem_range.1 hi2; omega)).1) (fun k hk=>by
        rw [hlen] at hk
        have hdiv:k / r.length < len:=Nat.div_lt_of_lt_mul (by rw [Nat.mul_comm]; exact hk)
        have hmod:k % r.length < r.length:=Nat.mod_lt _ hc2
        obtain ⟨c,h1,h2,h3,h4⟩:=hcell (k / r.length) (k % r.length) (by omega) hmod _ _ (List.getElem?_eq_getElem hmod) (List.getElem?_eq_getElem (by rw [(hF _ (by omega)).1]; exact hmod))
        have e:k / r.length*r.length+k % r.length=k:=by rw [Nat.mul_comm]; exact Nat.div_add_mod k r.length
        rw [e] at h1
        exact ⟨hlim _ _ _ h1,c,h1,h4⟩) (fun i j row c u h1 h2 h3=>by
        rw [List.getElem?_map] at h1
        obtain ⟨i',hi2,rfl⟩:=Option.map_eq_some_iff.1 h1
        have hil:i < len:=by have:=(List.getElem?_eq_some_iff.1 hi2).1; simpa using this
        have:i'=i:=by rw [List.getElem?_range hil] at hi2; cases hi2; rfl
        subst this
        have hjl:j < r.length:=by have:=(List.getElem?_eq_some_iff.1 h2).1; rw [(hF _ (by omega)).1] at this; exact this
        obtain ⟨c',k1,k2,k3,k4⟩:=hcell i' j (by omega) hjl _ _ (List.getElem?_eq_getElem hjl) h2
        rw [h3] at k1
        cases k1
        exact k3)
       rw [hlen] at key
       exact key
    ·cases h
   ·cases h
  ·rename_i fs hu
   split at h
   ·rename_i r hr
    split at h
    ·rename_i hc
     cases h
     have hc':=Nat.eq_of_beq_eq_true hc
     obtain ⟨ys,n',_,hy,hlen,hyl,hf⟩:=DataW.trod_struct hu ht
     have:=opens_fields (lim:=lim) (w:=w) (P:=P) cs fs.toList 0 _ hr (by omega) fun i f hi r' hr' hl'=>by
      have h1:=hf i f (by simpa using hi)
      have hys:ys[i]?=some (ys[i]'(by have:=(List.getElem?_eq_some_iff.1 hi).1; simp at this; omega)):=List.getElem?_eq_getElem _
      exact opens_shape hlim n f.type r' hr' n' _ _ (h1.trans hys)
     simpa using this
    ·cases h
   ·cases h
  ·cases h
end opening
end Go.Abs
namespace Go.Abs
open Go.RowKit Go.ChangeShapes Go.WideShapes Go.Deep Go.ChangeAt
def limW (w:World) (b:Nat):Nat:=match w.heap[b]? with
 | some (.cells c _ _)=>c.size
 | _=>0
theorem limW_lt (w:World) (b off:Nat) (u:Value) (h:w.cell? ⟨b,off,none⟩=some u):off < limW w b:=by
 unfold World.cell? at h
 unfold limW
 split at h
 ·rename_i c e k hb
  simp only at hb
  rw [hb]
  simp only [Option.isSome_none,Bool.false_eq_true,if_false] at h
  exact (Array.getElem?_eq_some_iff.1 h).1
 ·cases h
theorem Opens.top {lim:Nat→Nat} {w:World} {sh:Sh} {c:Value} (h:Opens lim w [sh] [c]):∃ d,DFits sh d∧DRep lim w d c:=by
 obtain ⟨ds,h1,_,h3⟩:=h
 match ds,h1 with
 | [d],_=>exact ⟨d,(h3 0 sh d c rfl rfl rfl).1,(h3 0 sh d c rfl rfl rfl).2.1⟩
section top
variable {H:Type} {enc:TypeId×Value→H} {P:Program} {w:World} {held:Bool} {r:Reach} {b0:Nat} {t:TypeId} {v:Value} {d:DataW H} {ps:List MemPlace}
theorem top_slice {n:Nat} {e:TypeId} {row:List Sh} (hs:shape P n t=some [.sl row]) (ht:P.underlying t=some (.slice e)) (hv:Value.okWide P w r b0 t v) (h:DataW.Trod enc P w 0 (fun _=>true) held t v d ps):∃ x,DFits (.sl row) x∧DRep (limW w) w x v:=by
 obtain ⟨a,l,c,rfl⟩:=okWide_slice ht hv
 obtain ⟨fuel,hf⟩:=h
 exact (opens_shape (limW_lt w) n t _ hs fuel _ _ hf).top
theorem top_int (ht:P.underlying t=some (.int .i64)) (hv:Value.okWide P w r b0 t v) (h:DataW.Trod enc P w 0 (fun _=>true) held t v d ps):∃ m:Int,DRep (limW w) w (.ex (.int .i64 m)) v∧-9223372036854775808≤m∧m≤9223372036854775807:=by
 obtain ⟨m,rfl⟩:=okWide_int ht hv
 obtain ⟨fuel,hf⟩:=h
 obtain ⟨m',h1,_,hw⟩:=DataW.trod_int ht hf
 have:m'=m:=by simpa [Value.cells] using h1.symm
 subst this
 refine ⟨m',.ex _,?_⟩
 simp only [Lit.wf,Bool.and_eq_true,decide_eq_true_eq] at hw
 exact hw
end top
theorem rows_of {α:Type} {row:α→List D} {p:α→Prop}:∀ {rows:List (List D)},(∀ r,r∈rows→∃ x,p x∧r=row x)→∃ l:List α,rows=l.map row∧∀ x,x∈l→p x
 | [],_=>⟨[],rfl,fun x h=>by cases h⟩
 | r :: rows,h=>by
  obtain ⟨x,hx,rfl⟩:=h r List.mem_cons_self
  obtain ⟨l,rfl,hl⟩:=rows_of (rows:=rows) (row:=row) (p:=p) fun r' hr=>h r' (List.mem_cons_of_mem _ hr)
  exact ⟨x :: l,rfl,fun y hy=>by rcases List.mem_cons.1 hy with rfl | hy; exact hx; exact hl y hy⟩
theorem DFits.sl_inv {row:List Sh} {d:D} (h:DFits (.sl row) d):∃ rows,d=.sl row.length rows∧rows.length≤maxLen∧∀ r,r∈rows→r.length=row.length∧∀ (i:Nat) sh d,row[i]?=some sh→r[i]?=some d→DFits sh d:=by
 cases h with
 | sl _ rows hn h1 h=>exact ⟨rows,rfl,hn,fun r hr=>⟨h1 r hr,h r hr⟩⟩
theorem DFits.i_inv {d:D} (h:DFits (.i .i64) d):∃ n:Int,d=.ex (.int .i64 n)∧-9223372036854775808≤n∧n≤9223372036854775807:=by
 cases h with
 | i _ n hw=>simp only [Lit.wf,Bool.and_eq_true,decide_eq_true_eq] at hw; exact ⟨n,rfl,hw⟩
theorem DFits.b_inv {d:D} (h:DFits .b d):∃ x:Bool,d=.ex (.bool x):=by cases h with | b x=>exact ⟨x,rfl⟩
section
variable {H:Type} {enc:TypeId×Value→H} {P:Program}
theorem post_of_below {f:Func} {s:ChangeSpec} {apart fresh handsOn again:Bool} {W W':World} {args:Array Value} {v:Value} {ds gs:List (DataW H)} {before pa pv:List MemPlace}
  (hW:DataW.Whole enc P f.params.toList s.vars apart W args.toList ds gs before)
  (hres:∀ (b:Nat) (sp:Nat→Bool) (hd:Bool),DataW.TrodAll enc P W' b sp hd f.resultTypes.toList (v.resultList f.resultTypes.size) (s.fn H (ds++gs)).results [])
  (hargs:∀ sp:Nat→Bool,(∀ p∈before,sp p.block=true)→DataW.TrodAll enc P W' 0 sp true f.params.toList args.toList (s.fn H (ds++gs)).args pa)
  (hvars:∀ sp:Nat→Bool,(∀ p∈before,sp p.block=true)→DataW.TrodVars enc P W' sp s.vars (s.fn H (ds++gs)).vars pv)
  (hps:before=pa++pv) (hb:Below W.heap.size W W')
  (hok:∀ (j:Nat) (t:TypeId) (r:Value),f.resultTypes[j]?=some t→(v.resultList f.resultTypes.size)[j]?=some r→Value.okWide P W' .any 0 t r) :
  s.post enc P f apart fresh handsOn again W args v W':=by
 have hlt:∀ p∈before,p.block < W.heap.size:=fun p hp=>hW.lt p hp
 have hold:∀ p∈before,(fun b=>decide (b < W.heap.size)) p.block=true:=fun p hp=>by simpa using hlt p hp
 refine ⟨ds,gs,before,[],pa,pv,hW,hres _ _ _,hargs _ hold,hvars _ hold,World.keptBut_mono (fun p hp=>⟨hp,?_⟩) (hb.frame (·∈before)),fun _=>?_⟩
 ·rw [hps,List.mem_append] at hp
  exact Or.inr hp
 ·obtain ⟨_,_,_,_,_,hz,hn⟩:=hW
  refine ⟨hok,_,_,([]++pa)++pv,⟨[]++pa,pv,trodAll_append (hargs _ (fun _ _=>rfl)) (hres _ _ _),hvars _ (fun _ _=>rfl),rfl,?_,?_⟩,?_⟩
  ·intro b off hp
   have hin:MemPlace.cell b off∈before:=by rw [hps]; simpa using hp
   rw [hb.frozen (hlt _ hin)]
   exact hz b off hin
  ·intro ha
   have:=hn ha
   rw [hps] at this
   simpa using this
  ·intro p hp _
   rw [hps]
   simpa using hp
end
theorem trodAll_stays {H:Type} {enc:TypeId×Value→H} {P:Program} (hl:laidOutB P=true) {W W':World} (hb:Below W.heap.size W W') (sp:Nat→Bool):∀ {ts:List TypeId} {vs:List Value} {ds:List (DataW H)} {ps:List MemPlace},
  (ts.all fun t=>P.readableRec t && decide (t < P.types.size))=true→DataW.TrodAll enc P W 0 (fun _=>true) true ts vs ds ps→(∀ x∈ps,x.block < W.heap.size)→(∀ x∈ps,sp x.block=true)→DataW.TrodAll enc P W' 0 sp true ts vs ds ps
 | [],[],[],_,_,h,_,_=>h
 | t :: ts,v :: vs,d :: ds,ps,hr,h,hlt,hsp=>by
  obtain ⟨p,q,h1,h2,rfl⟩:=h
  simp only [List.all_cons,Bool.and_eq_true,decide_eq_true_eq] at hr
  refine ⟨p,q,?_,?_,rfl⟩
  ·exact WideElems.Trod_stays hl hr.1.1 hr.1.2 h1 (fun x hx=>hb.same (hlt x (List.mem_append_left _ hx))) (fun x hx=>hsp x (List.mem_append_left _ hx))
  ·exact trodAll_stays hl hb sp (by simpa using hr.2) h2 (fun x hx=>hlt x (List.mem_append_right _ hx)) (fun x hx=>hsp x (List.mem_append_right _ hx))
theorem DFits.s_inv' {d:D} (h:DFits .s d):∃ l:List UInt8,d=.ex (.string ⟨l.toArray⟩)∧l.length≤maxLen:=by cases h with | s l h=>exact ⟨l,rfl,h⟩
theorem rows_of' {α:Type} {row:α→List D} {p:α→Prop} {rows:List (List D)} (h:∀ r,r∈rows→∃ x,r=row x∧p x):∃ l:List α,rows=l.map row∧∀ x,x∈l→p x :=
 rows_of fun r hr=>let ⟨x,h1,h2⟩:=h r hr; ⟨x,h2,h1⟩
theorem DFits.sl_of {sh:List Sh} {d:D} {α:Type} {row:α→List D} {p:α→Prop} (h:DFits (.sl sh) d)
  (hr:∀ r:List D,r.length=sh.length→(∀ (i:Nat) h d,sh[i]?=some h→r[i]?=some d→DFits h d)→∃ x,r=row x∧p x) :
  ∃ l:List α,d=.sl sh.length (l.map row)∧l.length≤maxLen∧∀ z,z∈l→p z:=by
 obtain ⟨rows,rfl,hn,h2⟩:=h.sl_inv
 obtain ⟨l,rfl,hl⟩:=rows_of' (row:=row) (p:=p) fun r hrm=>hr r (h2 r hrm).1 (h2 r hrm).2
 exact ⟨l,rfl,by simpa using hn,hl⟩
section top
variable {H:Type} {enc:TypeId×Value→H} {P:Program} {w:World} {held:Bool} {r:Reach} {b0:Nat} {t:TypeId} {v:Value} {d:DataW H} {ps:List MemPlace}
theorem top_agg {n:Nat} {shs:List Sh} {fs:Array Field} (hs:shape P n t=some shs) (ht:P.underlying t=some (.struct fs)) (hv:Value.okWide P w r b0 t v) (h:DataW.Trod enc P w 0 (fun _=>true) held t v d ps) :
  ∃ x:List D,x.length=shs.length∧(∀ (i:Nat) sh d,shs[i]?=some sh→x[i]?=some d→DFits sh d)∧DRep (limW w) w (.agg x) v:=by
 obtain ⟨cs,rfl,_⟩:=okWide_struct ht hv
 obtain ⟨fuel,hf⟩:=h
 obtain ⟨ds,h1,h2,h3⟩:=opens_shape (limW_lt w) n t _ hs fuel _ _ hf
 have h2':cs.size=shs.length:=by simpa [Value.cells] using h2
 refine ⟨ds,h1,fun i sh d hi hd=>?_,.agg ds cs (by omega) (fun i u hu=>?_) fun i c u hc hu=>?_⟩
 ·have hil:i < cs.size:=by have:=(List.getElem?_eq_some_iff.1 hi).1; omega
  exact (h3 i sh d cs[i] hi hd (by simp [Value.cells,hil])).1
 ·have hil:i < shs.length:=by have:=(Array.getElem?_eq_some_iff.1 hu).1; omega
  exact (h3 i shs[i] (ds[i]'(by omega)) u (List.getElem?_eq_getElem hil) (List.getElem?_eq_getElem (by omega)) (by simpa [Value.cells] using hu)).2.2
 ·have hil:i < shs.length:=by have:=(Array.getElem?_eq_some_iff.1 hu).1; omega
  exact (h3 i shs[i] c u (List.getElem?_eq_getElem hil) hc (by simpa [Value.cells] using hu)).2.1
end top
end Go.Abs
