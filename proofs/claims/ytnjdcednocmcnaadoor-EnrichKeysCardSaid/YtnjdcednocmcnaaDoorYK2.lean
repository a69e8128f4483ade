/- Our own texts LW3 LW4 LW5 PA C1 C2 C3 of this seat in one. -/
import Derived.Test.YtnjdcednocmcnaaDoorYK1
import Derived.Deep.Slices
import Derived.ChangeArms
import Derived.ProofKit
import Derived.Below
import Derived.ChangeSame
set_option linter.unusedSimpArgs false
set_option linter.unusedVariables false
set_option linter.unusedSectionVars false
set_option maxRecDepth 100000
set_option maxHeartbeats 1000000
namespace Go.Proofs.YtnjdcednocmcnaaDoor
open Go.RowKit Go.Abs Go.Proofs.Tryd
theorem c_g_customer_begin {r:(List (Int×Account))×(List (Int×Sub))×(List (Int×Bool))×(List ((List UInt8)×Int))×(List (Int×Int))} (H:g_customer_begin=some r):ACallS prog 62 [] ⟨[],[]⟩ (QE (.ref 0 0) ⟨[.row 116 [.mp 1,.mp 2,.mp 3,.mp 4,.mp 5,.d (nilD),.d (nilD)],.map (mEnc (fun n=>Value.int .i64 n) (fun x=>.agg (Account.row x)) r.1),.map (mEnc (fun n=>Value.int .i64 n) (fun x=>.agg (Sub.row x)) r.2.1),.map (mEnc (fun n=>Value.int .i64 n) (fun x=>cB x) r.2.2.1),.map (mEnc (fun s=>Value.string ⟨s.toArray⟩) (fun x=>cI x) r.2.2.2.1),.map (mEnc (fun n=>Value.int .i64 n) (fun x=>cI x) r.2.2.2.2)],[]⟩):=by
 obtain ⟨i116,hi116,hz116,hs116,hb116⟩:=in_116
 refine ACallS.keep ?_
 refine ACallS.enter func62 rfl ntmps62 rfl fun S hS=>?_
 unfold g_customer_begin at H
 refine .A 15 [.v (.mp 0) ⟨[.map (mEnc (fun n=>Value.int .i64 n) (fun x=>.agg (Account.row x)) ([]:List (Int×Account)))],[]⟩,.v (.mp 1) ⟨[.map (mEnc (fun n=>Value.int .i64 n) (fun x=>.agg (Account.row x)) ([]:List (Int×Account))),.map (mEnc (fun n=>Value.int .i64 n) (fun x=>.agg (Sub.row x)) ([]:List (Int×Sub)))],[]⟩,.v (.mp 2) ⟨[.map (mEnc (fun n=>Value.int .i64 n) (fun x=>.agg (Account.row x)) ([]:List (Int×Account))),.map (mEnc (fun n=>Value.int .i64 n) (fun x=>.agg (Sub.row x)) ([]:List (Int×Sub))),.map (mEnc (fun n=>Value.int .i64 n) (fun x=>cB x) ([]:List (Int×Bool)))],[]⟩,.v (.mp 3) ⟨[.map (mEnc (fun n=>Value.int .i64 n) (fun x=>.agg (Account.row x)) ([]:List (Int×Account))),.map (mEnc (fun n=>Value.int .i64 n) (fun x=>.agg (Sub.row x)) ([]:List (Int×Sub))),.map (mEnc (fun n=>Value.int .i64 n) (fun x=>cB x) ([]:List (Int×Bool))),.map (mEnc (fun s=>Value.string ⟨s.toArray⟩) (fun x=>cI x) ([]:List ((List UInt8)×Int)))],[]⟩,.v (.mp 4) ⟨[.map (mEnc (fun n=>Value.int .i64 n) (fun x=>.agg (Account.row x)) ([]:List (Int×Account))),.map (mEnc (fun n=>Value.int .i64 n) (fun x=>.agg (Sub.row x)) ([]:List (Int×Sub))),.map (mEnc (fun n=>Value.int .i64 n) (fun x=>cB x) ([]:List (Int×Bool))),.map (mEnc (fun s=>Value.string ⟨s.toArray⟩) (fun x=>cI x) ([]:List ((List UInt8)×Int))),.map (mEnc (fun n=>Value.int .i64 n) (fun x=>cI x) ([]:List (Int×Int)))],[]⟩,.g (.agg [.mp 0,.mp 1,.mp 2,.mp 3,.mp 4,.d (nilD),.d (nilD)]),.r 5] rfl ⟨OpQ.g (q_buildE pl_116 hi116 hz116 rfl rfl),.e (v_makeMap) rfl,.e (v_makeMap) rfl,.e (v_makeMap) rfl,.e (v_makeMap) rfl,.e (v_makeMap) rfl⟩ ?_
 refine .R func62 results62 rfl ?_
 cases H
 exact ⟨[5,0,1,2,3,4],[],rfl,(okCons rfl (okCons okMap (okCons okMap (okCons okMap (okCons okMap (okCons okMap rfl)))))),(by first | rfl | (simp only [List.map_cons,List.map_nil,renMap,renArr,mergeSt]; rfl)),(by first | rfl | (simp only [List.map_cons,List.map_nil,renMap,renArr,mergeSt]; rfl)),(by first | rfl | (simp only [List.map_cons,List.map_nil,renMap,renArr,mergeSt]; rfl)),(by first | rfl | (simp only [List.map_cons,List.map_nil,renMap,renArr,mergeSt]; rfl)),(by first | rfl | (simp only [List.map_cons,List.map_nil,renMap,renArr,mergeSt]; rfl)),(by first | rfl | (simp only [List.map_cons,List.map_nil,renMap,renArr,mergeSt]; rfl)),.rfl' _⟩
theorem c_g_customer_upto {v0events:List Event} {v1t:Int} {r:(List Event)×Int} (H:g_customer_upto v0events v1t=some r):ACallS prog 63 [.d (slOf 7 Event.row v0events),.d (cI v1t)] ⟨[],[]⟩ (QE (.clo 70 [.ref 0 0,.ref 1 0]) ⟨[.row 22 [.d (slOf 7 Event.row r.1)],.row 3 [.d (cI r.2)]],[]⟩):=by
 refine ACallS.keep ?_
 refine ACallS.enter func63 rfl ntmps63 rfl fun S hS=>?_
 unfold g_customer_upto at H
 refine .A 11 [.r 0,.r 1,.g (.clo 70 [.ref 0 0,.ref 1 0])] rfl (OpQ.g (q_makeFunc rfl)) ?_
 refine .R func63 results63 rfl ?_
 cases H
 exact ⟨[0,1],[],rfl,rfl,rfl,rfl,rfl,rfl,rfl,rfl,.rfl' _⟩
theorem c_g_customer_world_changed {v1:Sub} {v2:Event} {o0c5p:List Int} {o0c6p:List Int} {o1c0p:List (Int×Account)} {o2c0p:List (Int×Sub)} {o3c0p:List (Int×Bool)} {o4c0p:List ((List UInt8)×Int)} {o5c0p:List (Int×Int)} {r:Sub×(List ((List UInt8)×Int))} (H:g_customer_world_changed v1 v2 o0c5p o0c6p o1c0p o2c0p o3c0p o4c0p o5c0p=some r):ACallS prog 72 [.ref 0 0,.d (.agg (Sub.row v1)),.d (.agg (Event.row v2))] ⟨[.row 116 [.mp 1,.mp 2,.mp 3,.mp 4,.mp 5,.d (slOf 1 rI o0c5p),.d (slOf 1 rI o0c6p)],.map (mEnc (fun n=>Value.int .i64 n) (fun x=>.agg (Account.row x)) o1c0p),.map (mEnc (fun n=>Value.int .i64 n) (fun x=>.agg (Sub.row x)) o2c0p),.map (mEnc (fun n=>Value.int .i64 n) (fun x=>cB x) o3c0p),.map (mEnc (fun s=>Value.string ⟨s.toArray⟩) (fun x=>cI x) o4c0p),.map (mEnc (fun n=>Value.int .i64 n) (fun x=>cI x) o5c0p)],[]⟩ (QE (.d (.agg (Sub.row r.1))) ⟨[.row 116 [.mp 1,.mp 2,.mp 3,.mp 4,.mp 5,.d (slOf 1 rI o0c5p),.d (slOf 1 rI o0c6p)],.map (mEnc (fun n=>Value.int .i64 n) (fun x=>.agg (Account.row x)) o1c0p),.map (mEnc (fun n=>Value.int .i64 n) (fun x=>.agg (Sub.row x)) o2c0p),.map (mEnc (fun n=>Value.int .i64 n) (fun x=>cB x) o3c0p),.map (mEnc (fun s=>Value.string ⟨s.toArray⟩) (fun x=>cI x) r.2),.map (mEnc (fun n=>Value.int .i64 n) (fun x=>cI x) o5c0p)],[]⟩):=by
 refine ACallS.keep ?_
 refine ACallS.enter func72 rfl ntmps72 rfl fun S hS=>?_
 unfold g_customer_world_changed at H
 refine .A 18 [.r 6,.r 7,.r 8] rfl trivial ?_
 refine .ite H rfl (fun H=>?_) (fun H=>?_)
 ·obtain ⟨y1,hy1,H⟩:=bind_some' H
  refine .A 28 [.p 8,.u ⟨[.row 116 [.mp 1,.mp 2,.mp 3,.mp 4,.mp 5,.d (slOf 1 rI o0c5p),.d (slOf 1 rI o0c6p)],.map (mEnc (fun n=>Value.int .i64 n) (fun x=>.agg (Account.row x)) o1c0p),.map (mEnc (fun n=>Value.int .i64 n) (fun x=>.agg (Sub.row x)) o2c0p),.map (mEnc (fun n=>Value.int .i64 n) (fun x=>cB x) o3c0p),.map (mEnc (fun s=>Value.string ⟨s.toArray⟩) (fun x=>cI x) (aset o4c0p v2.number v2.sub)),.map (mEnc (fun n=>Value.int .i64 n) (fun x=>cI x) o5c0p),.row 38 [.d (cI v1.id),.d (cI v1.account),.d (cI v1.since),.d (cS v1.plan),.d (slOf 1 rS v1.numbers),.d (slOf 1 rS v1.products),.d (cB v1.suspended),.d (cB v1.family)],.row 43 [.d (cI v2.at_),.d (cI v2.kind),.d (cI v2.account),.d (cI v2.sub),.d (cS v2.number),.d (cS v2.name),.d (cI v2.value)],.row 38 [.d (cI 0),.d (cI 0),.d (cI 0),.d (cS ([]:List UInt8)),.d (nilD),.d (nilD),.d (cB false),.d (cB false)]],[]⟩,.d (slOf 1 rS y1)] rfl ⟨g_call (en 23 rfl) rfl rfl (c_f_customer_place_string (hy1)),.e (u_mapUpdateD (strKF underlying9) (l:=o4c0p) (val:=(fun x=>cI x)) (k:=v2.number) (a:=v2.sub) underlying85 rfl rfl rfl (fun _ _ _ h=>exKey h) rfl (.rfl' _)) rfl,(show drawB _ _=true by kernel_rfl)⟩ ?_
  refine .R func72 results72 rfl ?_
  cases H
  exact ⟨[0,1,2,3,4,5],[],rfl,(okCons rfl (okCons okMap (okCons okMap (okCons okMap (okCons okMap (okCons okMap rfl)))))),(by first | rfl | (simp only [List.map_cons,List.map_nil,renMap,renArr,mergeSt]; rfl)),(by first | rfl | (simp only [List.map_cons,List.map_nil,renMap,renArr,mergeSt]; rfl)),(by first | rfl | (simp only [List.map_cons,List.map_nil,renMap,renArr,mergeSt]; rfl)),(by first | rfl | (simp only [List.map_cons,List.map_nil,renMap,renArr,mergeSt]; rfl)),(by first | rfl | (simp only [List.map_cons,List.map_nil,renMap,renArr,mergeSt]; rfl)),(by first | rfl | (simp only [List.map_cons,List.map_nil,renMap,renArr,mergeSt]; rfl)),.rfl' _⟩
 ·refine .A 5 [] rfl trivial ?_
  refine .ite H rfl (fun H=>?_) (fun H=>?_)
  ·obtain ⟨y2,hy2,H⟩:=bind_some' H
   refine .A 26 [.p 6,.v (.d (.tup [])) ⟨[.row 116 [.mp 1,.mp 2,.mp 3,.mp 4,.mp 5,.d (slOf 1 rI o0c5p),.d (slOf 1 rI o0c6p)],.map (mEnc (fun n=>Value.int .i64 n) (fun x=>.agg (Account.row x)) o1c0p),.map (mEnc (fun n=>Value.int .i64 n) (fun x=>.agg (Sub.row x)) o2c0p),.map (mEnc (fun n=>Value.int .i64 n) (fun x=>cB x) o3c0p),.map (mEnc (fun s=>Value.string ⟨s.toArray⟩) (fun x=>cI x) (aerase o4c0p v2.number)),.map (mEnc (fun n=>Value.int .i64 n) (fun x=>cI x) o5c0p),.row 38 [.d (cI v1.id),.d (cI v1.account),.d (cI v1.since),.d (cS v1.plan),.d (slOf 1 rS v1.numbers),.d (slOf 1 rS v1.products),.d (cB v1.suspended),.d (cB v1.family)],.row 43 [.d (cI v2.at_),.d (cI v2.kind),.d (cI v2.account),.d (cI v2.sub),.d (cS v2.number),.d (cS v2.name),.d (cI v2.value)],.row 38 [.d (cI 0),.d (cI 0),.d (cI 0),.d (cS ([]:List UInt8)),.d (nilD),.d (nilD),.d (cB false),.d (cB false)]],[]⟩,.d (slOf 1 rS y2)] rfl ⟨g_call (en 24 rfl) rfl rfl (c_f_customer_remove (hy2)),.e (v_deleteD (strKF underlying9) (l:=o4c0p) (val:=(fun x=>cI x)) (k:=v2.number) underlying85 rfl rfl rfl (fun _ _ _ h=>exKey h)) rfl,(show drawB _ _=true by kernel_rfl)⟩ ?_
   refine .R func72 results72 rfl ?_
   cases H
   exact ⟨[0,1,2,3,4,5],[],rfl,(okCons rfl (okCons okMap (okCons okMap (okCons okMap (okCons okMap (okCons okMap rfl)))))),(by first | rfl | (simp only [List.map_cons,List.map_nil,renMap,renArr,mergeSt]; rfl)),(by first | rfl | (simp only [List.map_cons,List.map_nil,renMap,renArr,mergeSt]; rfl)),(by first | rfl | (simp only [List.map_cons,List.map_nil,renMap,renArr,mergeSt]; rfl)),(by first | rfl | (simp only [List.map_cons,List.map_nil,renMap,renArr,mergeSt]; rfl)),(by first | rfl | (simp only [List.map_cons,List.map_nil,renMap,renArr,mergeSt]; rfl)),(by first | rfl | (simp only [List.map_cons,List.map_nil,renMap,renArr,mergeSt]; rfl)),.rfl' _⟩
  ·refine .A 5 [] rfl trivial ?_
   refine .ite H rfl (fun H=>?_) (fun H=>?_)
   ·refine .A 12 [] rfl trivial ?_
    refine .R func72 results72 rfl ?_
    cases H
    exact ⟨[0,1,2,3,4,5],[],rfl,(okCons rfl (okCons okMap (okCons okMap (okCons okMap (okCons okMap (okCons okMap rfl)))))),(by first | rfl | (simp only [List.map_cons,List.map_nil,renMap,renArr,mergeSt]; rfl)),(by first | rfl | (simp only [List.map_cons,List.map_nil,renMap,renArr,mergeSt]; rfl)),(by first | rfl | (simp only [List.map_cons,List.map_nil,renMap,renArr,mergeSt]; rfl)),(by first | rfl | (simp only [List.map_cons,List.map_nil,renMap,renArr,mergeSt]; rfl)),(by first | rfl | (simp only [List.map_cons,List.map_nil,renMap,renArr,mergeSt]; rfl)),(by first | rfl | (simp only [List.map_cons,List.map_nil,renMap,renArr,mergeSt]; rfl)),.rfl' _⟩
   ·refine .A 5 [] rfl trivial ?_
    refine .ite H rfl (fun H=>?_) (fun H=>?_)
    ·obtain ⟨y3,hy3,H⟩:=bind_some' H
     refine .A 15 [.d (slOf 1 rS y3)] rfl (g_call (en 23 rfl) rfl rfl (c_f_customer_place_string (hy3))) ?_
     refine .R func72 results72 rfl ?_
     cases H
     exact ⟨[0,1,2,3,4,5],[],rfl,(okCons rfl (okCons okMap (okCons okMap (okCons okMap (okCons okMap (okCons okMap rfl)))))),(by first | rfl | (simp only [List.map_cons,List.map_nil,renMap,renArr,mergeSt]; rfl)),(by first | rfl | (simp only [List.map_cons,List.map_nil,renMap,renArr,mergeSt]; rfl)),(by first | rfl | (simp only [List.map_cons,List.map_nil,renMap,renArr,mergeSt]; rfl)),(by first | rfl | (simp only [List.map_cons,List.map_nil,renMap,renArr,mergeSt]; rfl)),(by first | rfl | (simp only [List.map_cons,List.map_nil,renMap,renArr,mergeSt]; rfl)),(by first | rfl | (simp only [List.map_cons,List.map_nil,renMap,renArr,mergeSt]; rfl)),.rfl' _⟩
    ·refine .A 5 [] rfl trivial ?_
     refine .ite H rfl (fun H=>?_) (fun H=>?_)
     ·obtain ⟨y4,hy4,H⟩:=bind_some' H
      refine .A 15 [.d (slOf 1 rS y4)] rfl (g_call (en 24 rfl) rfl rfl (c_f_customer_remove (hy4))) ?_
      refine .R func72 results72 rfl ?_
      cases H
      exact ⟨[0,1,2,3,4,5],[],rfl,(okCons rfl (okCons okMap (okCons okMap (okCons okMap (okCons okMap (okCons okMap rfl)))))),(by first | rfl | (simp only [List.map_cons,List.map_nil,renMap,renArr,mergeSt]; rfl)),(by first | rfl | (simp only [List.map_cons,List.map_nil,renMap,renArr,mergeSt]; rfl)),(by first | rfl | (simp only [List.map_cons,List.map_nil,renMap,renArr,mergeSt]; rfl)),(by first | rfl | (simp only [List.map_cons,List.map_nil,renMap,renArr,mergeSt]; rfl)),(by first | rfl | (simp only [List.map_cons,List.map_nil,renMap,renArr,mergeSt]; rfl)),(by first | rfl | (simp only [List.map_cons,List.map_nil,renMap,renArr,mergeSt]; rfl)),.rfl' _⟩
     ·refine .A 5 [] rfl trivial ?_
      refine .ite H rfl (fun H=>?_) (fun H=>?_)
      ·refine .A 10 [] rfl trivial ?_
       refine .R func72 results72 rfl ?_
       cases H
       exact ⟨[0,1,2,3,4,5],[],rfl,(okCons rfl (okCons okMap (okCons okMap (okCons okMap (okCons okMap (okCons okMap rfl)))))),(by first | rfl | (simp only [List.map_cons,List.map_nil,renMap,renArr,mergeSt]; rfl)),(by first | rfl | (simp only [List.map_cons,List.map_nil,renMap,renArr,mergeSt]; rfl)),(by first | rfl | (simp only [List.map_cons,List.map_nil,renMap,renArr,mergeSt]; rfl)),(by first | rfl | (simp only [List.map_cons,List.map_nil,renMap,renArr,mergeSt]; rfl)),(by first | rfl | (simp only [List.map_cons,List.map_nil,renMap,renArr,mergeSt]; rfl)),(by first | rfl | (simp only [List.map_cons,List.map_nil,renMap,renArr,mergeSt]; rfl)),.rfl' _⟩
      ·refine .A 5 [] rfl trivial ?_
       refine .ite H rfl (fun H=>?_) (fun H=>?_)
       ·refine .A 10 [] rfl trivial ?_
        refine .R func72 results72 rfl ?_
        cases H
        exact ⟨[0,1,2,3,4,5],[],rfl,(okCons rfl (okCons okMap (okCons okMap (okCons okMap (okCons okMap (okCons okMap rfl)))))),(by first | rfl | (simp only [List.map_cons,List.map_nil,renMap,renArr,mergeSt]; rfl)),(by first | rfl | (simp only [List.map_cons,List.map_nil,renMap,renArr,mergeSt]; rfl)),(by first | rfl | (simp only [List.map_cons,List.map_nil,renMap,renArr,mergeSt]; rfl)),(by first | rfl | (simp only [List.map_cons,List.map_nil,renMap,renArr,mergeSt]; rfl)),(by first | rfl | (simp only [List.map_cons,List.map_nil,renMap,renArr,mergeSt]; rfl)),(by first | rfl | (simp only [List.map_cons,List.map_nil,renMap,renArr,mergeSt]; rfl)),.rfl' _⟩
       ·refine .A 5 [] rfl trivial ?_
        refine .ite H rfl (fun H=>?_) (fun H=>?_)
        ·refine .A 10 [] rfl trivial ?_
         refine .R func72 results72 rfl ?_
         cases H
         exact ⟨[0,1,2,3,4,5],[],rfl,(okCons rfl (okCons okMap (okCons okMap (okCons okMap (okCons okMap (okCons okMap rfl)))))),(by first | rfl | (simp only [List.map_cons,List.map_nil,renMap,renArr,mergeSt]; rfl)),(by first | rfl | (simp only [List.map_cons,List.map_nil,renMap,renArr,mergeSt]; rfl)),(by first | rfl | (simp only [List.map_cons,List.map_nil,renMap,renArr,mergeSt]; rfl)),(by first | rfl | (simp only [List.map_cons,List.map_nil,renMap,renArr,mergeSt]; rfl)),(by first | rfl | (simp only [List.map_cons,List.map_nil,renMap,renArr,mergeSt]; rfl)),(by first | rfl | (simp only [List.map_cons,List.map_nil,renMap,renArr,mergeSt]; rfl)),.rfl' _⟩
        ·refine .A 5 [] rfl trivial ?_
         refine .ite H rfl (fun H=>?_) (fun H=>?_)
         ·refine .A 10 [] rfl trivial ?_
          refine .R func72 results72 rfl ?_
          cases H
          exact ⟨[0,1,2,3,4,5],[],rfl,(okCons rfl (okCons okMap (okCons okMap (okCons okMap (okCons okMap (okCons okMap rfl)))))),(by first | rfl | (simp only [List.map_cons,List.map_nil,renMap,renArr,mergeSt]; rfl)),(by first | rfl | (simp only [List.map_cons,List.map_nil,renMap,renArr,mergeSt]; rfl)),(by first | rfl | (simp only [List.map_cons,List.map_nil,renMap,renArr,mergeSt]; rfl)),(by first | rfl | (simp only [List.map_cons,List.map_nil,renMap,renArr,mergeSt]; rfl)),(by first | rfl | (simp only [List.map_cons,List.map_nil,renMap,renArr,mergeSt]; rfl)),(by first | rfl | (simp only [List.map_cons,List.map_nil,renMap,renArr,mergeSt]; rfl)),.rfl' _⟩
         ·refine .A 7 [] rfl trivial ?_
          refine .R func72 results72 rfl ?_
          cases H
          exact ⟨[0,1,2,3,4,5],[],rfl,(okCons rfl (okCons okMap (okCons okMap (okCons okMap (okCons okMap (okCons okMap rfl)))))),(by first | rfl | (simp only [List.map_cons,List.map_nil,renMap,renArr,mergeSt]; rfl)),(by first | rfl | (simp only [List.map_cons,List.map_nil,renMap,renArr,mergeSt]; rfl)),(by first | rfl | (simp only [List.map_cons,List.map_nil,renMap,renArr,mergeSt]; rfl)),(by first | rfl | (simp only [List.map_cons,List.map_nil,renMap,renArr,mergeSt]; rfl)),(by first | rfl | (simp only [List.map_cons,List.map_nil,renMap,renArr,mergeSt]; rfl)),(by first | rfl | (simp only [List.map_cons,List.map_nil,renMap,renArr,mergeSt]; rfl)),.rfl' _⟩
theorem c_g_customer_world_apply {v1:Event} {o0c5p:List Int} {o0c6p:List Int} {o1c0p:List (Int×Account)} {o2c0p:List (Int×Sub)} {o3c0p:List (Int×Bool)} {o4c0p:List ((List UInt8)×Int)} {o5c0p:List (Int×Int)} {r:(List Int)×(List Int)×(List (Int×Account))×(List (Int×Sub))×(List (Int×Bool))×(List ((List UInt8)×Int))×(List (Int×Int))} (H:g_customer_world_apply v1 o0c5p o0c6p o1c0p o2c0p o3c0p o4c0p o5c0p=some r):ACallS prog 64 [.ref 0 0,.d (.agg (Event.row v1))] ⟨[.row 116 [.mp 1,.mp 2,.mp 3,.mp 4,.mp 5,.d (slOf 1 rI o0c5p),.d (slOf 1 rI o0c6p)],.map (mEnc (fun n=>Value.int .i64 n) (fun x=>.agg (Account.row x)) o1c0p),.map (mEnc (fun n=>Value.int .i64 n) (fun x=>.agg (Sub.row x)) o2c0p),.map (mEnc (fun n=>Value.int .i64 n) (fun x=>cB x) o3c0p),.map (mEnc (fun s=>Value.string ⟨s.toArray⟩) (fun x=>cI x) o4c0p),.map (mEnc (fun n=>Value.int .i64 n) (fun x=>cI x) o5c0p)],[]⟩ (QE (.d (.tup [])) ⟨[.row 116 [.mp 1,.mp 2,.mp 3,.mp 4,.mp 5,.d (slOf 1 rI r.1),.d (slOf 1 rI r.2.1)],.map (mEnc (fun n=>Value.int .i64 n) (fun x=>.agg (Account.row x)) r.2.2.1),.map (mEnc (fun n=>Value.int .i64 n) (fun x=>.agg (Sub.row x)) r.2.2.2.1),.map (mEnc (fun n=>Value.int .i64 n) (fun x=>cB x) r.2.2.2.2.1),.map (mEnc (fun s=>Value.string ⟨s.toArray⟩) (fun x=>cI x) r.2.2.2.2.2.1),.map (mEnc (fun n=>Value.int .i64 n) (fun x=>cI x) r.2.2.2.2.2.2)],[]⟩):=by
 obtain ⟨i3,hi3,hz3,hs3,hb3⟩:=in_3
 obtain ⟨i4,hi4,hz4,hs4,hb4⟩:=in_4
 obtain ⟨i38,hi38,hz38,hs38,hb38⟩:=in_38
 obtain ⟨i77,hi77,hz77,hs77,hb77⟩:=in_77
 refine ACallS.keep ?_
 refine ACallS.enter func64 rfl ntmps64 rfl fun S hS=>?_
 unfold g_customer_world_apply at H
 refine .A 15 [.r 6] rfl trivial ?_
 refine .ite H rfl (fun H=>?_) (fun H=>?_)
 ·refine .seqJoin (ι:=List Int) (fun o0c5j1=>[(0,.ref 0 0),(3,.ref 6 0)]) (fun o0c5j1=>⟨[.row 116 [.mp 1,.mp 2,.mp 3,.mp 4,.mp 5,.d (slOf 1 rI o0c5j1),.d (slOf 1 rI o0c6p)],.map (mEnc (fun n=>Value.int .i64 n) (fun x=>.agg (Account.row x)) o1c0p),.map (mEnc (fun n=>Value.int .i64 n) (fun x=>.agg (Sub.row x)) o2c0p),.map (mEnc (fun n=>Value.int .i64 n) (fun x=>cB x) o3c0p),.map (mEnc (fun s=>Value.string ⟨s.toArray⟩) (fun x=>cI x) o4c0p),.map (mEnc (fun n=>Value.int .i64 n) (fun x=>cI x) o5c0p),.row 43 [.d (cI v1.at_),.d (cI v1.kind),.d (cI v1.account),.d (cI v1.sub),.d (cS v1.number),.d (cS v1.name),.d (cI v1.value)],.row 77 [.d (cI (((alook o1c0p v1.account).getD (⟨0,0,0,false,false,([]:List Int)⟩:Account)).id)),.d (cI (((alook o1c0p v1.account).getD (⟨0,0,0,false,false,([]:List Int)⟩:Account)).since)),.d (cI (((alook o1c0p v1.account).getD (⟨0,0,0,false,false,([]:List Int)⟩:Account)).anchor)),.d (cB (((alook o1c0p v1.account).getD (⟨0,0,0,false,false,([]:List Int)⟩:Account)).prepaid)),.d (cB (((alook o1c0p v1.account).getD (⟨0,0,0,false,false,([]:List Int)⟩:Account)).closed)),.d (slOf 1 rI (((alook o1c0p v1.account).getD (⟨0,0,0,false,false,([]:List Int)⟩:Account)).subs))]],[]⟩) (fun s=>g_customer_world_apply_j1 v1 o0c6p o1c0p o2c0p o3c0p o4c0p o5c0p s=some r) ?_ ?_
  ·rintro o0c5j1 H
   replace H:g_customer_world_apply_j1 v1 o0c6p o1c0p o2c0p o3c0p o4c0p o5c0p o0c5j1=some r:=H
   unfold g_customer_world_apply_j1 at H
   refine .A 21 [.p 16,.d (.agg (Account.row (⟨v1.account,v1.at_,v1.value,(v1.name==([112,114,101,112,97,105,100]:List UInt8)),false,([]:List Int)⟩:Account))),.u ⟨[.row 116 [.mp 1,.mp 2,.mp 3,.mp 4,.mp 5,.d (slOf 1 rI o0c5j1),.d (slOf 1 rI o0c6p)],.map (mEnc (fun n=>Value.int .i64 n) (fun x=>.agg (Account.row x)) (aset o1c0p v1.account (⟨v1.account,v1.at_,v1.value,(v1.name==([112,114,101,112,97,105,100]:List UInt8)),false,([]:List Int)⟩:Account))),.map (mEnc (fun n=>Value.int .i64 n) (fun x=>.agg (Sub.row x)) o2c0p),.map (mEnc (fun n=>Value.int .i64 n) (fun x=>cB x) o3c0p),.map (mEnc (fun s=>Value.string ⟨s.toArray⟩) (fun x=>cI x) o4c0p),.map (mEnc (fun n=>Value.int .i64 n) (fun x=>cI x) o5c0p),.row 43 [.d (cI v1.at_),.d (cI v1.kind),.d (cI v1.account),.d (cI v1.sub),.d (cS v1.number),.d (cS v1.name),.d (cI v1.value)],.row 77 [.d (cI (((alook o1c0p v1.account).getD (⟨0,0,0,false,false,([]:List Int)⟩:Account)).id)),.d (cI (((alook o1c0p v1.account).getD (⟨0,0,0,false,false,([]:List Int)⟩:Account)).since)),.d (cI (((alook o1c0p v1.account).getD (⟨0,0,0,false,false,([]:List Int)⟩:Account)).anchor)),.d (cB (((alook o1c0p v1.account).getD (⟨0,0,0,false,false,([]:List Int)⟩:Account)).prepaid)),.d (cB (((alook o1c0p v1.account).getD (⟨0,0,0,false,false,([]:List Int)⟩:Account)).closed)),.d (slOf 1 rI (((alook o1c0p v1.account).getD (⟨0,0,0,false,false,([]:List Int)⟩:Account)).subs))]],[]⟩] rfl ⟨.e (u_mapUpdateD (intKF underlying3) (l:=o1c0p) (val:=(fun x=>.agg (Account.row x))) (k:=v1.account) (a:=(⟨v1.account,v1.at_,v1.value,(v1.name==([112,114,101,112,97,105,100]:List UInt8)),false,([]:List Int)⟩:Account)) underlying111 rfl rfl rfl (fun _ _ _ h=>exKey h) rfl (.rfl' _)) rfl,OpQ.g (OpQ.le (q_buildP pl_77 hi77 hz77 rfl rfl) (EVle.d (.agg ⟨.rfl' _,.rfl' _,.rfl' _,.rfl' _,.rfl' _,.nil 1,trivial⟩))),(show drawB _ _=true by kernel_rfl)⟩ ?_
   refine .fin0 func64 results64 ?_
   cases H
   exact ⟨[0,1,2,3,4,5],[],rfl,(okCons rfl (okCons okMap (okCons okMap (okCons okMap (okCons okMap (okCons okMap rfl)))))),(by first | rfl | (simp only [List.map_cons,List.map_nil,renMap,renArr,mergeSt]; rfl)),(by first | rfl | (simp only [List.map_cons,List.map_nil,renMap,renArr,mergeSt]; rfl)),(by first | rfl | (simp only [List.map_cons,List.map_nil,renMap,renArr,mergeSt]; rfl)),(by first | rfl | (simp only [List.map_cons,List.map_nil,renMap,renArr,mergeSt]; rfl)),(by first | rfl | (simp only [List.map_cons,List.map_nil,renMap,renArr,mergeSt]; rfl)),(by first | rfl | (simp only [List.map_cons,List.map_nil,renMap,renArr,mergeSt]; rfl)),EVle.tupL (ds:=[]) trivial⟩
  ·intro hj1
   refine .A 1 [] rfl trivial ?_
   refine .orders2 12 10 11 [⟨[.row 116 [.mp 1,.mp 2,.mp 3,.mp 4,.mp 5,.d (slOf 1 rI o0c5p),.d (slOf 1 rI o0c6p)],.map (mEnc (fun n=>Value.int .i64 n) (fun x=>.agg (Account.row x)) o1c0p),.map (mEnc (fun n=>Value.int .i64 n) (fun x=>.agg (Sub.row x)) o2c0p),.map (mEnc (fun n=>Value.int .i64 n) (fun x=>cB x) o3c0p),.map (mEnc (fun s=>Value.string ⟨s.toArray⟩) (fun x=>cI x) o4c0p),.map (mEnc (fun n=>Value.int .i64 n) (fun x=>cI x) o5c0p),.row 43 [.d (cI v1.at_),.d (cI v1.kind),.d (cI v1.account),.d (cI v1.sub),.d (cS v1.number),.d (cS v1.name),.d (cI v1.value)]],[]⟩,⟨[.row 116 [.mp 1,.mp 2,.mp 3,.mp 4,.mp 5,.d (slOf 1 rI o0c5p),.d (slOf 1 rI o0c6p)],.map (mEnc (fun n=>Value.int .i64 n) (fun x=>.agg (Account.row x)) o1c0p),.map (mEnc (fun n=>Value.int .i64 n) (fun x=>.agg (Sub.row x)) o2c0p),.map (mEnc (fun n=>Value.int .i64 n) (fun x=>cB x) o3c0p),.map (mEnc (fun s=>Value.string ⟨s.toArray⟩) (fun x=>cI x) o4c0p),.map (mEnc (fun n=>Value.int .i64 n) (fun x=>cI x) o5c0p),.row 43 [.d (cI v1.at_),.d (cI v1.kind),.d (cI v1.account),.d (cI v1.sub),.d (cS v1.number),.d (cS v1.name),.d (cI v1.value)],.row 77 [.d (cI 0),.d (cI 0),.d (cI 0),.d (cB false),.d (cB false),.d (nilD)]],[]⟩,⟨[.row 116 [.mp 1,.mp 2,.mp 3,.mp 4,.mp 5,.d (slOf 1 rI o0c5p),.d (slOf 1 rI o0c6p)],.map (mEnc (fun n=>Value.int .i64 n) (fun x=>.agg (Account.row x)) o1c0p),.map (mEnc (fun n=>Value.int .i64 n) (fun x=>.agg (Sub.row x)) o2c0p),.map (mEnc (fun n=>Value.int .i64 n) (fun x=>cB x) o3c0p),.map (mEnc (fun s=>Value.string ⟨s.toArray⟩) (fun x=>cI x) o4c0p),.map (mEnc (fun n=>Value.int .i64 n) (fun x=>cI x) o5c0p),.row 43 [.d (cI v1.at_),.d (cI v1.kind),.d (cI v1.account),.d (cI v1.sub),.d (cS v1.number),.d (cS v1.name),.d (cI v1.value)],.row 77 [.d (cI (((alook o1c0p v1.account).getD (⟨0,0,0,false,false,([]:List Int)⟩:Account)).id)),.d (cI (((alook o1c0p v1.account).getD (⟨0,0,0,false,false,([]:List Int)⟩:Account)).since)),.d (cI (((alook o1c0p v1.account).getD (⟨0,0,0,false,false,([]:List Int)⟩:Account)).anchor)),.d (cB (((alook o1c0p v1.account).getD (⟨0,0,0,false,false,([]:List Int)⟩:Account)).prepaid)),.d (cB (((alook o1c0p v1.account).getD (⟨0,0,0,false,false,([]:List Int)⟩:Account)).closed)),.d (slOf 1 rI (((alook o1c0p v1.account).getD (⟨0,0,0,false,false,([]:List Int)⟩:Account)).subs))]],[]⟩] hMix (by kernel_rfl) (by decide) (by decide) (by kernel_rfl) rfl ?_
   show XOps _ _ _ _ _ _ _ _ _ _ (_ :: _) _ _
   refine .g (x:=.ref 0 0) 0 1 ⟨OpQ.g (q_move rfl),OpQ.g (q_move rfl),trivial⟩ rfl (by kernel_rfl) rfl ?_
   refine .g (x:=.ref 0 0) 0 1 ⟨OpQ.g (q_nilRef rfl),OpQ.g (q_nilRef rfl),trivial⟩ rfl (by kernel_rfl) rfl ?_
   refine .g (x:=.ref 0 0) 0 1 ⟨OpQ.g (q_fieldRef fo_116_0 rfl),OpQ.g (q_fieldRef fo_116_0 rfl),trivial⟩ rfl (by kernel_rfl) rfl ?_
   refine .g (x:=.mp 1) 0 1 ⟨OpQ.g (q_loadO one_111 rfl rfl rfl),OpQ.g (q_loadO one_111 rfl rfl rfl),trivial⟩ rfl (by kernel_rfl) rfl ?_
   refine .g (x:=.ref 6 2) 0 1 ⟨OpQ.g (q_fieldRef fo_43_2 rfl),OpQ.g (q_fieldRef fo_43_2 rfl),trivial⟩ rfl (by kernel_rfl) rfl ?_
   refine .g (x:=.d (cI v1.account)) 0 1 ⟨OpQ.g (q_loadO one_3 rfl rfl rfl),OpQ.g (q_loadO one_3 rfl rfl rfl),trivial⟩ rfl (by kernel_rfl) rfl ?_
   refine .g (x:=.d (.tup [.agg (Account.row ((alook o1c0p v1.account).getD (⟨0,0,0,false,false,([]:List Int)⟩:Account))),cB ((alook o1c0p v1.account).isSome)])) 0 1 ⟨OpQ.g (q_lookupOkD (intKF underlying3) (l:=o1c0p) (val:=(fun x=>.agg (Account.row x))) (k:=v1.account) (a0:=(⟨0,0,0,false,false,([]:List Int)⟩:Account)) underlying111 hi77 hz77 (show DLe (.agg [cI 0,cI 0,cI 0,cB false,cB false,nilD]) (.agg (Account.row (⟨0,0,0,false,false,([]:List Int)⟩:Account))) from .agg ⟨.rfl' _,.rfl' _,.rfl' _,.rfl' _,.rfl' _,.nil 1,trivial⟩) rfl rfl rfl (fun _ _ _ h=>exKey h)),OpQ.g (q_lookupOkD (intKF underlying3) (l:=o1c0p) (val:=(fun x=>.agg (Account.row x))) (k:=v1.account) (a0:=(⟨0,0,0,false,false,([]:List Int)⟩:Account)) underlying111 hi77 hz77 (show DLe (.agg [cI 0,cI 0,cI 0,cB false,cB false,nilD]) (.agg (Account.row (⟨0,0,0,false,false,([]:List Int)⟩:Account))) from .agg ⟨.rfl' _,.rfl' _,.rfl' _,.rfl' _,.rfl' _,.nil 1,trivial⟩) rfl rfl rfl (fun _ _ _ h=>exKey h)),trivial⟩ rfl (by kernel_rfl) rfl ?_
   refine .g (x:=.d (.tup [.agg (Account.row ((alook o1c0p v1.account).getD (⟨0,0,0,false,false,([]:List Int)⟩:Account))),cB ((alook o1c0p v1.account).isSome)])) 0 1 ⟨OpQ.g (q_move rfl),OpQ.g (q_move rfl),trivial⟩ rfl (by kernel_rfl) rfl ?_
   refine .g (x:=.d (.agg (Account.row ((alook o1c0p v1.account).getD (⟨0,0,0,false,false,([]:List Int)⟩:Account))))) 0 1 ⟨OpQ.g (q_extract rfl rfl),OpQ.g (q_extract rfl rfl),trivial⟩ rfl (by kernel_rfl) rfl ?_
   refine .g (x:=.d (cB ((alook o1c0p v1.account).isSome))) 0 2 ⟨OpQ.g (q_extract rfl rfl),OpQ.g (q_extract rfl rfl),OpQ.g (q_extract rfl rfl),trivial⟩ rfl (by kernel_rfl) rfl ?_
   refine .v (x:=.ref 7 0) 0 (v_alloc zr_77 rfl) rfl rfl rfl rfl ?_
   refine .u 1 (u_store rfl rfl rfl rfl (Nat.le_of_ble_eq_true rfl) sz_77) rfl rfl rfl rfl ?_
   refine .nil rfl ?_
   show AOps _ _ _ _ _ _ (_ :: _) _ _ _
   refine .A 7 [] rfl trivial ?_
   refine .ite H rfl (fun H=>?_) (fun H=>?_)
   ·obtain ⟨y1,hy1,H⟩:=bind_some' H
    refine .A 14 [.p 10,.d (slOf 1 rI y1)] rfl ⟨g_call (en 25 rfl) rfl rfl (c_f_customer_place_int (hy1)),(show drawB _ _=true by kernel_rfl)⟩ ?_
    exact .z (hj1 y1 H) rfl rfl
   ·refine .A 1 [] rfl trivial ?_
    exact .z (hj1 o0c5p H) rfl rfl
 ·refine .A 5 [] rfl trivial ?_
  refine .ite H rfl (fun H=>?_) (fun H=>?_)
  ·refine .A 1 [] rfl trivial ?_
   refine .orders1 8 7 [⟨[.row 116 [.mp 1,.mp 2,.mp 3,.mp 4,.mp 5,.d (slOf 1 rI o0c5p),.d (slOf 1 rI o0c6p)],.map (mEnc (fun n=>Value.int .i64 n) (fun x=>.agg (Account.row x)) o1c0p),.map (mEnc (fun n=>Value.int .i64 n) (fun x=>.agg (Sub.row x)) o2c0p),.map (mEnc (fun n=>Value.int .i64 n) (fun x=>cB x) o3c0p),.map (mEnc (fun s=>Value.string ⟨s.toArray⟩) (fun x=>cI x) o4c0p),.map (mEnc (fun n=>Value.int .i64 n) (fun x=>cI x) o5c0p),.row 43 [.d (cI v1.at_),.d (cI v1.kind),.d (cI v1.account),.d (cI v1.sub),.d (cS v1.number),.d (cS v1.name),.d (cI v1.value)]],[]⟩,⟨[.row 116 [.mp 1,.mp 2,.mp 3,.mp 4,.mp 5,.d (slOf 1 rI o0c5p),.d (slOf 1 rI o0c6p)],.map (mEnc (fun n=>Value.int .i64 n) (fun x=>.agg (Account.row x)) o1c0p),.map (mEnc (fun n=>Value.int .i64 n) (fun x=>.agg (Sub.row x)) o2c0p),.map (mEnc (fun n=>Value.int .i64 n) (fun x=>cB x) o3c0p),.map (mEnc (fun s=>Value.string ⟨s.toArray⟩) (fun x=>cI x) o4c0p),.map (mEnc (fun n=>Value.int .i64 n) (fun x=>cI x) o5c0p),.row 43 [.d (cI v1.at_),.d (cI v1.kind),.d (cI v1.account),.d (cI v1.sub),.d (cS v1.number),.d (cS v1.name),.d (cI v1.value)],.row 77 [.d (cI 0),.d (cI 0),.d (cI 0),.d (cB false),.d (cB false),.d (nilD)]],[]⟩] hMix (by kernel_rfl) (by decide) rfl ?_
   show XOps _ _ _ _ _ _ _ _ _ _ (_ :: _) _ _
   refine .g (x:=.ref 0 0) 0 1 ⟨OpQ.g (q_move rfl),OpQ.g (q_move rfl),trivial⟩ rfl (by kernel_rfl) rfl ?_
   refine .g (x:=.ref 0 0) 0 1 ⟨OpQ.g (q_nilRef rfl),OpQ.g (q_nilRef rfl),trivial⟩ rfl (by kernel_rfl) rfl ?_
   refine .g (x:=.ref 0 0) 0 1 ⟨OpQ.g (q_fieldRef fo_116_0 rfl),OpQ.g (q_fieldRef fo_116_0 rfl),trivial⟩ rfl (by kernel_rfl) rfl ?_
   refine .g (x:=.mp 1) 0 1 ⟨OpQ.g (q_loadO one_111 rfl rfl rfl),OpQ.g (q_loadO one_111 rfl rfl rfl),trivial⟩ rfl (by kernel_rfl) rfl ?_
   refine .g (x:=.ref 6 2) 0 1 ⟨OpQ.g (q_fieldRef fo_43_2 rfl),OpQ.g (q_fieldRef fo_43_2 rfl),trivial⟩ rfl (by kernel_rfl) rfl ?_
   refine .g (x:=.d (cI v1.account)) 0 1 ⟨OpQ.g (q_loadO one_3 rfl rfl rfl),OpQ.g (q_loadO one_3 rfl rfl rfl),trivial⟩ rfl (by kernel_rfl) rfl ?_
   refine .g (x:=.d (.agg (Account.row ((alook o1c0p v1.account).getD (⟨0,0,0,false,false,([]:List Int)⟩:Account))))) 0 1 ⟨OpQ.g (q_lookupD (intKF underlying3) (l:=o1c0p) (val:=(fun x=>.agg (Account.row x))) (k:=v1.account) (a0:=(⟨0,0,0,false,false,([]:List Int)⟩:Account)) underlying111 hi77 hz77 (show DLe (.agg [cI 0,cI 0,cI 0,cB false,cB false,nilD]) (.agg (Account.row (⟨0,0,0,false,false,([]:List Int)⟩:Account))) from .agg ⟨.rfl' _,.rfl' _,.rfl' _,.rfl' _,.rfl' _,.nil 1,trivial⟩) rfl rfl rfl (fun _ _ _ h=>exKey h)),OpQ.g (q_lookupD (intKF underlying3) (l:=o1c0p) (val:=(fun x=>.agg (Account.row x))) (k:=v1.account) (a0:=(⟨0,0,0,false,false,([]:List Int)⟩:Account)) underlying111 hi77 hz77 (show DLe (.agg [cI 0,cI 0,cI 0,cB false,cB false,nilD]) (.agg (Account.row (⟨0,0,0,false,false,([]:List Int)⟩:Account))) from .agg ⟨.rfl' _,.rfl' _,.rfl' _,.rfl' _,.rfl' _,.nil 1,trivial⟩) rfl rfl rfl (fun _ _ _ h=>exKey h)),trivial⟩ rfl (by kernel_rfl) rfl ?_
   refine .v (x:=.ref 7 0) 0 (v_alloc zr_77 rfl) rfl rfl rfl rfl ?_
   refine .nil rfl ?_
   show AOps _ _ _ _ _ _ (_ :: _) _ _ _
   refine .A 19 [.p 7,.u ⟨[.row 116 [.mp 1,.mp 2,.mp 3,.mp 4,.mp 5,.d (slOf 1 rI o0c5p),.d (slOf 1 rI o0c6p)],.map (mEnc (fun n=>Value.int .i64 n) (fun x=>.agg (Account.row x)) (aset o1c0p v1.account (⟨((alook o1c0p v1.account).getD (⟨0,0,0,false,false,([]:List Int)⟩:Account)).id,((alook o1c0p v1.account).getD (⟨0,0,0,false,false,([]:List Int)⟩:Account)).since,((alook o1c0p v1.account).getD (⟨0,0,0,false,false,([]:List Int)⟩:Account)).anchor,((alook o1c0p v1.account).getD (⟨0,0,0,false,false,([]:List Int)⟩:Account)).prepaid,true,((alook o1c0p v1.account).getD (⟨0,0,0,false,false,([]:List Int)⟩:Account)).subs⟩:Account))),.map (mEnc (fun n=>Value.int .i64 n) (fun x=>.agg (Sub.row x)) o2c0p),.map (mEnc (fun n=>Value.int .i64 n) (fun x=>cB x) o3c0p),.map (mEnc (fun s=>Value.string ⟨s.toArray⟩) (fun x=>cI x) o4c0p),.map (mEnc (fun n=>Value.int .i64 n) (fun x=>cI x) o5c0p),.row 43 [.d (cI v1.at_),.d (cI v1.kind),.d (cI v1.account),.d (cI v1.sub),.d (cS v1.number),.d (cS v1.name),.d (cI v1.value)],.row 77 [.d (cI (((alook o1c0p v1.account).getD (⟨0,0,0,false,false,([]:List Int)⟩:Account)).id)),.d (cI (((alook o1c0p v1.account).getD (⟨0,0,0,false,false,([]:List Int)⟩:Account)).since)),.d (cI (((alook o1c0p v1.account).getD (⟨0,0,0,false,false,([]:List Int)⟩:Account)).anchor)),.d (cB (((alook o1c0p v1.account).getD (⟨0,0,0,false,false,([]:List Int)⟩:Account)).prepaid)),.d (cB true),.d (slOf 1 rI (((alook o1c0p v1.account).getD (⟨0,0,0,false,false,([]:List Int)⟩:Account)).subs))]],[]⟩] rfl ⟨.e (u_mapUpdateD (intKF underlying3) (l:=o1c0p) (val:=(fun x=>.agg (Account.row x))) (k:=v1.account) (a:=(⟨((alook o1c0p v1.account).getD (⟨0,0,0,false,false,([]:List Int)⟩:Account)).id,((alook o1c0p v1.account).getD (⟨0,0,0,false,false,([]:List Int)⟩:Account)).since,((alook o1c0p v1.account).getD (⟨0,0,0,false,false,([]:List Int)⟩:Account)).anchor,((alook o1c0p v1.account).getD (⟨0,0,0,false,false,([]:List Int)⟩:Account)).prepaid,true,((alook o1c0p v1.account).getD (⟨0,0,0,false,false,([]:List Int)⟩:Account)).subs⟩:Account)) underlying111 rfl rfl rfl (fun _ _ _ h=>exKey h) rfl (.rfl' _)) rfl,(show drawB _ _=true by kernel_rfl)⟩ ?_
   refine .fin0 func64 results64 ?_
   cases H
   exact ⟨[0,1,2,3,4,5],[],rfl,(okCons rfl (okCons okMap (okCons okMap (okCons okMap (okCons okMap (okCons okMap rfl)))))),(by first | rfl | (simp only [List.map_cons,List.map_nil,renMap,renArr,mergeSt]; rfl)),(by first | rfl | (simp only [List.map_cons,List.map_nil,renMap,renArr,mergeSt]; rfl)),(by first | rfl | (simp only [List.map_cons,List.map_nil,renMap,renArr,mergeSt]; rfl)),(by first | rfl | (simp only [List.map_cons,List.map_nil,renMap,renArr,mergeSt]; rfl)),(by first | rfl | (simp only [List.map_cons,List.map_nil,renMap,renArr,mergeSt]; rfl)),(by first | rfl | (simp only [List.map_cons,List.map_nil,renMap,renArr,mergeSt]; rfl)),EVle.tupL (ds:=[]) trivial⟩
  ·refine .A 5 [] rfl trivial ?_
   refine .ite H rfl (fun H=>?_) (fun H=>?_)
   ·refine .seqJoin (ι:=List Int) (fun o0c6j2=>[(0,.ref 0 0),(3,.ref 6 0)]) (fun o0c6j2=>⟨[.row 116 [.mp 1,.mp 2,.mp 3,.mp 4,.mp 5,.d (slOf 1 rI o0c5p),.d (slOf 1 rI o0c6j2)],.map (mEnc (fun n=>Value.int .i64 n) (fun x=>.agg (Account.row x)) o1c0p),.map (mEnc (fun n=>Value.int .i64 n) (fun x=>.agg (Sub.row x)) o2c0p),.map (mEnc (fun n=>Value.int .i64 n) (fun x=>cB x) o3c0p),.map (mEnc (fun s=>Value.string ⟨s.toArray⟩) (fun x=>cI x) o4c0p),.map (mEnc (fun n=>Value.int .i64 n) (fun x=>cI x) o5c0p),.row 43 [.d (cI v1.at_),.d (cI v1.kind),.d (cI v1.account),.d (cI v1.sub),.d (cS v1.number),.d (cS v1.name),.d (cI v1.value)]],[]⟩) (fun s=>g_customer_world_apply_j2 v1 o0c5p o1c0p o2c0p o3c0p o4c0p o5c0p s=some r) ?_ ?_
    ·rintro o0c6j2 H
     replace H:g_customer_world_apply_j2 v1 o0c5p o1c0p o2c0p o3c0p o4c0p o5c0p o0c6j2=some r:=H
     unfold g_customer_world_apply_j2 at H
     obtain ⟨hk1,H⟩:=ck_some H
     refine .A 44 [.p 6,.u ⟨[.row 116 [.mp 1,.mp 2,.mp 3,.mp 4,.mp 5,.d (slOf 1 rI o0c5p),.d (slOf 1 rI o0c6j2)],.map (mEnc (fun n=>Value.int .i64 n) (fun x=>.agg (Account.row x)) o1c0p),.map (mEnc (fun n=>Value.int .i64 n) (fun x=>.agg (Sub.row x)) o2c0p),.map (mEnc (fun n=>Value.int .i64 n) (fun x=>cB x) (aset o3c0p v1.sub true)),.map (mEnc (fun s=>Value.string ⟨s.toArray⟩) (fun x=>cI x) o4c0p),.map (mEnc (fun n=>Value.int .i64 n) (fun x=>cI x) o5c0p),.row 43 [.d (cI v1.at_),.d (cI v1.kind),.d (cI v1.account),.d (cI v1.sub),.d (cS v1.number),.d (cS v1.name),.d (cI v1.value)]],[]⟩,.p 8,.i ((alook o5c0p v1.account).getD 0),.i (((alook o5c0p v1.account).getD 0)+1),.u ⟨[.row 116 [.mp 1,.mp 2,.mp 3,.mp 4,.mp 5,.d (slOf 1 rI o0c5p),.d (slOf 1 rI o0c6j2)],.map (mEnc (fun n=>Value.int .i64 n) (fun x=>.agg (Account.row x)) o1c0p),.map (mEnc (fun n=>Value.int .i64 n) (fun x=>.agg (Sub.row x)) o2c0p),.map (mEnc (fun n=>Value.int .i64 n) (fun x=>cB x) (aset o3c0p v1.sub true)),.map (mEnc (fun s=>Value.string ⟨s.toArray⟩) (fun x=>cI x) o4c0p),.map (mEnc (fun n=>Value.int .i64 n) (fun x=>cI x) (aset o5c0p v1.account (((alook o5c0p v1.account).getD 0)+1))),.row 43 [.d (cI v1.at_),.d (cI v1.kind),.d (cI v1.account),.d (cI v1.sub),.d (cS v1.number),.d (cS v1.name),.d (cI v1.value)]],[]⟩,.p 15,.d (.agg (Sub.row (⟨v1.sub,v1.account,v1.at_,v1.name,([]:List (List UInt8)),([]:List (List UInt8)),false,false⟩:Sub))),.u ⟨[.row 116 [.mp 1,.mp 2,.mp 3,.mp 4,.mp 5,.d (slOf 1 rI o0c5p),.d (slOf 1 rI o0c6j2)],.map (mEnc (fun n=>Value.int .i64 n) (fun x=>.agg (Account.row x)) o1c0p),.map (mEnc (fun n=>Value.int .i64 n) (fun x=>.agg (Sub.row x)) (aset o2c0p v1.sub (⟨v1.sub,v1.account,v1.at_,v1.name,([]:List (List UInt8)),([]:List (List UInt8)),false,false⟩:Sub))),.map (mEnc (fun n=>Value.int .i64 n) (fun x=>cB x) (aset o3c0p v1.sub true)),.map (mEnc (fun s=>Value.string ⟨s.toArray⟩) (fun x=>cI x) o4c0p),.map (mEnc (fun n=>Value.int .i64 n) (fun x=>cI x) (aset o5c0p v1.account (((alook o5c0p v1.account).getD 0)+1))),.row 43 [.d (cI v1.at_),.d (cI v1.kind),.d (cI v1.account),.d (cI v1.sub),.d (cS v1.number),.d (cS v1.name),.d (cI v1.value)]],[]⟩] rfl ⟨.e (u_mapUpdateD (intKF underlying3) (l:=o2c0p) (val:=(fun x=>.agg (Sub.row x))) (k:=v1.sub) (a:=(⟨v1.sub,v1.account,v1.at_,v1.name,([]:List (List UInt8)),([]:List (List UInt8)),false,false⟩:Sub)) underlying112 rfl rfl rfl (fun _ _ _ h=>exKey h) rfl (.rfl' _)) rfl,OpQ.g (OpQ.le (q_buildP pl_38 hi38 hz38 rfl rfl) (EVle.d (.agg ⟨.rfl' _,.rfl' _,.rfl' _,.rfl' _,.nil 1,.nil 1,.rfl' _,.rfl' _,trivial⟩))),(show drawB _ _=true by kernel_rfl),.e (u_mapUpdateD (intKF underlying3) (l:=o5c0p) (val:=(fun x=>cI x)) (k:=v1.account) (a:=((alook o5c0p v1.account).getD 0)+1) underlying114 rfl rfl rfl (fun _ _ _ h=>exKey h) rfl (.rfl' _)) rfl,g_addI rfl rfl hk1,OpQ.g (q_lookupD (intKF underlying3) (l:=o5c0p) (val:=(fun x=>cI x)) (k:=v1.account) (a0:=0) underlying114 hi3 hz3 (show DLe (cI 0) (cI 0) from .rfl' _) rfl rfl rfl (fun _ _ _ h=>exKey h)),(show drawB _ _=true by kernel_rfl),.e (u_mapUpdateD (intKF underlying3) (l:=o3c0p) (val:=(fun x=>cB x)) (k:=v1.sub) (a:=true) underlying113 rfl rfl rfl (fun _ _ _ h=>exKey h) rfl (.rfl' _)) rfl,(show drawB _ _=true by kernel_rfl)⟩ ?_
     refine .fin0 func64 results64 ?_
     cases H
     exact ⟨[0,1,2,3,4,5],[],rfl,(okCons rfl (okCons okMap (okCons okMap (okCons okMap (okCons okMap (okCons okMap rfl)))))),(by first | rfl | (simp only [List.map_cons,List.map_nil,renMap,renArr,mergeSt]; rfl)),(by first | rfl | (simp only [List.map_cons,List.map_nil,renMap,renArr,mergeSt]; rfl)),(by first | rfl | (simp only [List.map_cons,List.map_nil,renMap,renArr,mergeSt]; rfl)),(by first | rfl | (simp only [List.map_cons,List.map_nil,renMap,renArr,mergeSt]; rfl)),(by first | rfl | (simp only [List.map_cons,List.map_nil,renMap,renArr,mergeSt]; rfl)),(by first | rfl | (simp only [List.map_cons,List.map_nil,renMap,renArr,mergeSt]; rfl)),EVle.tupL (ds:=[]) trivial⟩
    ·intro hj2
     refine .A 12 [.p 8,.b ((alook o3c0p v1.sub).getD false)] rfl ⟨OpQ.g (q_lookupD (intKF underlying3) (l:=o3c0p) (val:=(fun x=>cB x)) (k:=v1.sub) (a0:=false) underlying113 hi4 hz4 (show DLe (cB false) (cB false) from .rfl' _) rfl rfl rfl (fun _ _ _ h=>exKey h)),(show drawB _ _=true by kernel_rfl)⟩ ?_
     refine .ite H rfl (fun H=>?_) (fun H=>?_)
     ·obtain ⟨y2,hy2,H⟩:=bind_some' H
      refine .A 14 [.p 10,.d (slOf 1 rI y2)] rfl ⟨g_call (en 25 rfl) rfl rfl (c_f_customer_place_int (hy2)),(show drawB _ _=true by kernel_rfl)⟩ ?_
      exact .z (hj2 y2 H) rfl rfl
     ·refine .A 1 [] rfl trivial ?_
      exact .z (hj2 o0c6p H) rfl rfl
   ·refine .A 5 [] rfl trivial ?_
    refine .ite H rfl (fun H=>?_) (fun H=>?_)
    ·refine .A 1 [] rfl trivial ?_
     refine .orders1 8 7 [⟨[.row 116 [.mp 1,.mp 2,.mp 3,.mp 4,.mp 5,.d (slOf 1 rI o0c5p),.d (slOf 1 rI o0c6p)],.map (mEnc (fun n=>Value.int .i64 n) (fun x=>.agg (Account.row x)) o1c0p),.map (mEnc (fun n=>Value.int .i64 n) (fun x=>.agg (Sub.row x)) o2c0p),.map (mEnc (fun n=>Value.int .i64 n) (fun x=>cB x) o3c0p),.map (mEnc (fun s=>Value.string ⟨s.toArray⟩) (fun x=>cI x) o4c0p),.map (mEnc (fun n=>Value.int .i64 n) (fun x=>cI x) o5c0p),.row 43 [.d (cI v1.at_),.d (cI v1.kind),.d (cI v1.account),.d (cI v1.sub),.d (cS v1.number),.d (cS v1.name),.d (cI v1.value)]],[]⟩,⟨[.row 116 [.mp 1,.mp 2,.mp 3,.mp 4,.mp 5,.d (slOf 1 rI o0c5p),.d (slOf 1 rI o0c6p)],.map (mEnc (fun n=>Value.int .i64 n) (fun x=>.agg (Account.row x)) o1c0p),.map (mEnc (fun n=>Value.int .i64 n) (fun x=>.agg (Sub.row x)) o2c0p),.map (mEnc (fun n=>Value.int .i64 n) (fun x=>cB x) o3c0p),.map (mEnc (fun s=>Value.string ⟨s.toArray⟩) (fun x=>cI x) o4c0p),.map (mEnc (fun n=>Value.int .i64 n) (fun x=>cI x) o5c0p),.row 43 [.d (cI v1.at_),.d (cI v1.kind),.d (cI v1.account),.d (cI v1.sub),.d (cS v1.number),.d (cS v1.name),.d (cI v1.value)],.row 38 [.d (cI 0),.d (cI 0),.d (cI 0),.d (cS ([]:List UInt8)),.d (nilD),.d (nilD),.d (cB false),.d (cB false)]],[]⟩] hMix (by kernel_rfl) (by decide) rfl ?_
     show XOps _ _ _ _ _ _ _ _ _ _ (_ :: _) _ _
     refine .g (x:=.ref 0 0) 0 1 ⟨OpQ.g (q_move rfl),OpQ.g (q_move rfl),trivial⟩ rfl (by kernel_rfl) rfl ?_
     refine .g (x:=.ref 0 0) 0 1 ⟨OpQ.g (q_nilRef rfl),OpQ.g (q_nilRef rfl),trivial⟩ rfl (by kernel_rfl) rfl ?_
     refine .g (x:=.ref 0 1) 0 1 ⟨OpQ.g (q_fieldRef fo_116_1 rfl),OpQ.g (q_fieldRef fo_116_1 rfl),trivial⟩ rfl (by kernel_rfl) rfl ?_
     refine .g (x:=.mp 2) 0 1 ⟨OpQ.g (q_loadO one_112 rfl rfl rfl),OpQ.g (q_loadO one_112 rfl rfl rfl),trivial⟩ rfl (by kernel_rfl) rfl ?_
     refine .g (x:=.ref 6 3) 0 1 ⟨OpQ.g (q_fieldRef fo_43_3 rfl),OpQ.g (q_fieldRef fo_43_3 rfl),trivial⟩ rfl (by kernel_rfl) rfl ?_
     refine .g (x:=.d (cI v1.sub)) 0 1 ⟨OpQ.g (q_loadO one_3 rfl rfl rfl),OpQ.g (q_loadO one_3 rfl rfl rfl),trivial⟩ rfl (by kernel_rfl) rfl ?_
     refine .g (x:=.d (.agg (Sub.row ((alook o2c0p v1.sub).getD (⟨0,0,0,([]:List UInt8),([]:List (List UInt8)),([]:List (List UInt8)),false,false⟩:Sub))))) 0 1 ⟨OpQ.g (q_lookupD (intKF underlying3) (l:=o2c0p) (val:=(fun x=>.agg (Sub.row x))) (k:=v1.sub) (a0:=(⟨0,0,0,([]:List UInt8),([]:List (List UInt8)),([]:List (List UInt8)),false,false⟩:Sub)) underlying112 hi38 hz38 (show DLe (.agg [cI 0,cI 0,cI 0,cS ([]:List UInt8),nilD,nilD,cB false,cB false]) (.agg (Sub.row (⟨0,0,0,([]:List UInt8),([]:List (List UInt8)),([]:List (List UInt8)),false,false⟩:Sub))) from .agg ⟨.rfl' _,.rfl' _,.rfl' _,.rfl' _,.nil 1,.nil 1,.rfl' _,.rfl' _,trivial⟩) rfl rfl rfl (fun _ _ _ h=>exKey h)),OpQ.g (q_lookupD (intKF underlying3) (l:=o2c0p) (val:=(fun x=>.agg (Sub.row x))) (k:=v1.sub) (a0:=(⟨0,0,0,([]:List UInt8),([]:List (List UInt8)),([]:List (List UInt8)),false,false⟩:Sub)) underlying112 hi38 hz38 (show DLe (.agg [cI 0,cI 0,cI 0,cS ([]:List UInt8),nilD,nilD,cB false,cB false]) (.agg (Sub.row (⟨0,0,0,([]:List UInt8),([]:List (List UInt8)),([]:List (List UInt8)),false,false⟩:Sub))) from .agg ⟨.rfl' _,.rfl' _,.rfl' _,.rfl' _,.nil 1,.nil 1,.rfl' _,.rfl' _,trivial⟩) rfl rfl rfl (fun _ _ _ h=>exKey h)),trivial⟩ rfl (by kernel_rfl) rfl ?_
     refine .v (x:=.ref 7 0) 0 (v_alloc zr_38 rfl) rfl rfl rfl rfl ?_
     refine .nil rfl ?_
     show AOps _ _ _ _ _ _ (_ :: _) _ _ _
     refine .A 10 [.i ((((alook o2c0p v1.sub).getD (⟨0,0,0,([]:List UInt8),([]:List (List UInt8)),([]:List (List UInt8)),false,false⟩:Sub)).numbers).length:Int)] rfl (s36.n rfl rfl) ?_
     refine .blockJoin2 (ι:=(List ((List UInt8)×Int))) (fun o4c0j3=>[(0,.ref 0 0),(3,.ref 6 0),(7,.ref 7 0)]) (fun o4c0j3=>⟨[.row 116 [.mp 1,.mp 2,.mp 3,.mp 4,.mp 5,.d (slOf 1 rI o0c5p),.d (slOf 1 rI o0c6p)],.map (mEnc (fun n=>Value.int .i64 n) (fun x=>.agg (Account.row x)) o1c0p),.map (mEnc (fun n=>Value.int .i64 n) (fun x=>.agg (Sub.row x)) o2c0p),.map (mEnc (fun n=>Value.int .i64 n) (fun x=>cB x) o3c0p),.map (mEnc (fun s=>Value.string ⟨s.toArray⟩) (fun x=>cI x) o4c0j3),.map (mEnc (fun n=>Value.int .i64 n) (fun x=>cI x) o5c0p),.row 43 [.d (cI v1.at_),.d (cI v1.kind),.d (cI v1.account),.d (cI v1.sub),.d (cS v1.number),.d (cS v1.name),.d (cI v1.value)],.row 38 [.d (cI (((alook o2c0p v1.sub).getD (⟨0,0,0,([]:List UInt8),([]:List (List UInt8)),([]:List (List UInt8)),false,false⟩:Sub)).id)),.d (cI (((alook o2c0p v1.sub).getD (⟨0,0,0,([]:List UInt8),([]:List (List UInt8)),([]:List (List UInt8)),false,false⟩:Sub)).account)),.d (cI (((alook o2c0p v1.sub).getD (⟨0,0,0,([]:List UInt8),([]:List (List UInt8)),([]:List (List UInt8)),false,false⟩:Sub)).since)),.d (cS (((alook o2c0p v1.sub).getD (⟨0,0,0,([]:List UInt8),([]:List (List UInt8)),([]:List (List UInt8)),false,false⟩:Sub)).plan)),.d (slOf 1 rS (((alook o2c0p v1.sub).getD (⟨0,0,0,([]:List UInt8),([]:List (List UInt8)),([]:List (List UInt8)),false,false⟩:Sub)).numbers)),.d (slOf 1 rS (((alook o2c0p v1.sub).getD (⟨0,0,0,([]:List UInt8),([]:List (List UInt8)),([]:List (List UInt8)),false,false⟩:Sub)).products)),.d (cB (((alook o2c0p v1.sub).getD (⟨0,0,0,([]:List UInt8),([]:List (List UInt8)),([]:List (List UInt8)),false,false⟩:Sub)).suspended)),.d (cB (((alook o2c0p v1.sub).getD (⟨0,0,0,([]:List UInt8),([]:List (List UInt8)),([]:List (List UInt8)),false,false⟩:Sub)).family))]],[]⟩) (fun s=>g_customer_world_apply_j3 v1 o0c5p o0c6p o1c0p o2c0p o3c0p o5c0p s=some r) ?_ ?_
     ·rintro o4c0j3 H
      replace H:g_customer_world_apply_j3 v1 o0c5p o0c6p o1c0p o2c0p o3c0p o5c0p o4c0j3=some r:=H
      unfold g_customer_world_apply_j3 at H
      obtain ⟨hk2,H⟩:=ck_some H
      refine .A 24 [.p 8,.i ((alook o5c0p (((alook o2c0p v1.sub).getD (⟨0,0,0,([]:List UInt8),([]:List (List UInt8)),([]:List (List UInt8)),false,false⟩:Sub)).account)).getD 0),.i (((alook o5c0p (((alook o2c0p v1.sub).getD (⟨0,0,0,([]:List UInt8),([]:List (List UInt8)),([]:List (List UInt8)),false,false⟩:Sub)).account)).getD 0) - 1),.u ⟨[.row 116 [.mp 1,.mp 2,.mp 3,.mp 4,.mp 5,.d (slOf 1 rI o0c5p),.d (slOf 1 rI o0c6p)],.map (mEnc (fun n=>Value.int .i64 n) (fun x=>.agg (Account.row x)) o1c0p),.map (mEnc (fun n=>Value.int .i64 n) (fun x=>.agg (Sub.row x)) o2c0p),.map (mEnc (fun n=>Value.int .i64 n) (fun x=>cB x) o3c0p),.map (mEnc (fun s=>Value.string ⟨s.toArray⟩) (fun x=>cI x) o4c0j3),.map (mEnc (fun n=>Value.int .i64 n) (fun x=>cI x) (aset o5c0p (((alook o2c0p v1.sub).getD (⟨0,0,0,([]:List UInt8),([]:List (List UInt8)),([]:List (List UInt8)),false,false⟩:Sub)).account) (((alook o5c0p (((alook o2c0p v1.sub).getD (⟨0,0,0,([]:List UInt8),([]:List (List UInt8)),([]:List (List UInt8)),false,false⟩:Sub)).account)).getD 0) - 1))),.row 43 [.d (cI v1.at_),.d (cI v1.kind),.d (cI v1.account),.d (cI v1.sub),.d (cS v1.number),.d (cS v1.name),.d (cI v1.value)],.row 38 [.d (cI (((alook o2c0p v1.sub).getD (⟨0,0,0,([]:List UInt8),([]:List (List UInt8)),([]:List (List UInt8)),false,false⟩:Sub)).id)),.d (cI (((alook o2c0p v1.sub).getD (⟨0,0,0,([]:List UInt8),([]:List (List UInt8)),([]:List (List UInt8)),false,false⟩:Sub)).account)),.d (cI (((alook o2c0p v1.sub).getD (⟨0,0,0,([]:List UInt8),([]:List (List UInt8)),([]:List (List UInt8)),false,false⟩:Sub)).since)),.d (cS (((alook o2c0p v1.sub).getD (⟨0,0,0,([]:List UInt8),([]:List (List UInt8)),([]:List (List UInt8)),false,false⟩:Sub)).plan)),.d (slOf 1 rS (((alook o2c0p v1.sub).getD (⟨0,0,0,([]:List UInt8),([]:List (List UInt8)),([]:List (List UInt8)),false,false⟩:Sub)).numbers)),.d (slOf 1 rS (((alook o2c0p v1.sub).getD (⟨0,0,0,([]:List UInt8),([]:List (List UInt8)),([]:List (List UInt8)),false,false⟩:Sub)).products)),.d (cB (((alook o2c0p v1.sub).getD (⟨0,0,0,([]:List UInt8),([]:List (List UInt8)),([]:List (List UInt8)),false,false⟩:Sub)).suspended)),.d (cB (((alook o2c0p v1.sub).getD (⟨0,0,0,([]:List UInt8),([]:List (List UInt8)),([]:List (List UInt8)),false,false⟩:Sub)).family))]],[]⟩,.p 6,.v (.d (.tup [])) ⟨[.row 116 [.mp 1,.mp 2,.mp 3,.mp 4,.mp 5,.d (slOf 1 rI o0c5p),.d (slOf 1 rI o0c6p)],.map (mEnc (fun n=>Value.int .i64 n) (fun x=>.agg (Account.row x)) o1c0p),.map (mEnc (fun n=>Value.int .i64 n) (fun x=>.agg (Sub.row x)) (aerase o2c0p v1.sub)),.map (mEnc (fun n=>Value.int .i64 n) (fun x=>cB x) o3c0p),.map (mEnc (fun s=>Value.string ⟨s.toArray⟩) (fun x=>cI x) o4c0j3),.map (mEnc (fun n=>Value.int .i64 n) (fun x=>cI x) (aset o5c0p (((alook o2c0p v1.sub).getD (⟨0,0,0,([]:List UInt8),([]:List (List UInt8)),([]:List (List UInt8)),false,false⟩:Sub)).account) (((alook o5c0p (((alook o2c0p v1.sub).getD (⟨0,0,0,([]:List UInt8),([]:List (List UInt8)),([]:List (List UInt8)),false,false⟩:Sub)).account)).getD 0) - 1))),.row 43 [.d (cI v1.at_),.d (cI v1.kind),.d (cI v1.account),.d (cI v1.sub),.d (cS v1.number),.d (cS v1.name),.d (cI v1.value)],.row 38 [.d (cI (((alook o2c0p v1.sub).getD (⟨0,0,0,([]:List UInt8),([]:List (List UInt8)),([]:List (List UInt8)),false,false⟩:Sub)).id)),.d (cI (((alook o2c0p v1.sub).getD (⟨0,0,0,([]:List UInt8),([]:List (List UInt8)),([]:List (List UInt8)),false,false⟩:Sub)).account)),.d (cI (((alook o2c0p v1.sub).getD (⟨0,0,0,([]:List UInt8),([]:List (List UInt8)),([]:List (List UInt8)),false,false⟩:Sub)).since)),.d (cS (((alook o2c0p v1.sub).getD (⟨0,0,0,([]:List UInt8),([]:List (List UInt8)),([]:List (List UInt8)),false,false⟩:Sub)).plan)),.d (slOf 1 rS (((alook o2c0p v1.sub).getD (⟨0,0,0,([]:List UInt8),([]:List (List UInt8)),([]:List (List UInt8)),false,false⟩:Sub)).numbers)),.d (slOf 1 rS (((alook o2c0p v1.sub).getD (⟨0,0,0,([]:List UInt8),([]:List (List UInt8)),([]:List (List UInt8)),false,false⟩:Sub)).products)),.d (cB (((alook o2c0p v1.sub).getD (⟨0,0,0,([]:List UInt8),([]:List (List UInt8)),([]:List (List UInt8)),false,false⟩:Sub)).suspended)),.d (cB (((alook o2c0p v1.sub).getD (⟨0,0,0,([]:List UInt8),([]:List (List UInt8)),([]:List (List UInt8)),false,false⟩:Sub)).family))]],[]⟩] rfl ⟨.e (v_deleteD (intKF underlying3) (l:=o2c0p) (val:=(fun x=>.agg (Sub.row x))) (k:=v1.sub) underlying112 rfl rfl rfl (fun _ _ _ h=>exKey h)) rfl,(show drawB _ _=true by kernel_rfl),.e (u_mapUpdateD (intKF underlying3) (l:=o5c0p) (val:=(fun x=>cI x)) (k:=((alook o2c0p v1.sub).getD (⟨0,0,0,([]:List UInt8),([]:List (List UInt8)),([]:List (List UInt8)),false,false⟩:Sub)).account) (a:=((alook o5c0p (((alook o2c0p v1.sub).getD (⟨0,0,0,([]:List UInt8),([]:List (List UInt8)),([]:List (List UInt8)),false,false⟩:Sub)).account)).getD 0) - 1) underlying114 rfl rfl rfl (fun _ _ _ h=>exKey h) rfl (.rfl' _)) rfl,g_subI rfl rfl hk2,OpQ.g (q_lookupD (intKF underlying3) (l:=o5c0p) (val:=(fun x=>cI x)) (k:=((alook o2c0p v1.sub).getD (⟨0,0,0,([]:List UInt8),([]:List (List UInt8)),([]:List (List UInt8)),false,false⟩:Sub)).account) (a0:=0) underlying114 hi3 hz3 (show DLe (cI 0) (cI 0) from .rfl' _) rfl rfl rfl (fun _ _ _ h=>exKey h)),(show drawB _ _=true by kernel_rfl)⟩ ?_
      refine .fin0 func64 results64 ?_
      cases H
      exact ⟨[0,1,2,3,4,5],[],rfl,(okCons rfl (okCons okMap (okCons okMap (okCons okMap (okCons okMap (okCons okMap rfl)))))),(by first | rfl | (simp only [List.map_cons,List.map_nil,renMap,renArr,mergeSt]; rfl)),(by first | rfl | (simp only [List.map_cons,List.map_nil,renMap,renArr,mergeSt]; rfl)),(by first | rfl | (simp only [List.map_cons,List.map_nil,renMap,renArr,mergeSt]; rfl)),(by first | rfl | (simp only [List.map_cons,List.map_nil,renMap,renArr,mergeSt]; rfl)),(by first | rfl | (simp only [List.map_cons,List.map_nil,renMap,renArr,mergeSt]; rfl)),(by first | rfl | (simp only [List.map_cons,List.map_nil,renMap,renArr,mergeSt]; rfl)),EVle.tupL (ds:=[]) trivial⟩
     ·intro hj3 hj3x
      obtain ⟨n1,H⟩:=loop_some H
      refine .loop (ι:=Nat×(Int×(List ((List UInt8)×Int)))) (fun ⟨_,v153l1,o4c0l1⟩=>[(0,.ref 0 0),(3,.ref 6 0),(7,.ref 7 0),(151,.d (slOf 1 rS (((alook o2c0p v1.sub).getD (⟨0,0,0,([]:List UInt8),([]:List (List UInt8)),([]:List (List UInt8)),false,false⟩:Sub)).numbers))),(152,.d (cI ((((alook o2c0p v1.sub).getD (⟨0,0,0,([]:List UInt8),([]:List (List UInt8)),([]:List (List UInt8)),false,false⟩:Sub)).numbers).length:Int))),(153,.d (cI v153l1))]) (fun ⟨_,v153l1,o4c0l1⟩=>⟨[.row 116 [.mp 1,.mp 2,.mp 3,.mp 4,.mp 5,.d (slOf 1 rI o0c5p),.d (slOf 1 rI o0c6p)],.map (mEnc (fun n=>Value.int .i64 n) (fun x=>.agg (Account.row x)) o1c0p),.map (mEnc (fun n=>Value.int .i64 n) (fun x=>.agg (Sub.row x)) o2c0p),.map (mEnc (fun n=>Value.int .i64 n) (fun x=>cB x) o3c0p),.map (mEnc (fun s=>Value.string ⟨s.toArray⟩) (fun x=>cI x) o4c0l1),.map (mEnc (fun n=>Value.int .i64 n) (fun x=>cI x) o5c0p),.row 43 [.d (cI v1.at_),.d (cI v1.kind),.d (cI v1.account),.d (cI v1.sub),.d (cS v1.number),.d (cS v1.name),.d (cI v1.value)],.row 38 [.d (cI (((alook o2c0p v1.sub).getD (⟨0,0,0,([]:List UInt8),([]:List (List UInt8)),([]:List (List UInt8)),false,false⟩:Sub)).id)),.d (cI (((alook o2c0p v1.sub).getD (⟨0,0,0,([]:List UInt8),([]:List (List UInt8)),([]:List (List UInt8)),false,false⟩:Sub)).account)),.d (cI (((alook o2c0p v1.sub).getD (⟨0,0,0,([]:List UInt8),([]:List (List UInt8)),([]:List (List UInt8)),false,false⟩:Sub)).since)),.d (cS (((alook o2c0p v1.sub).getD (⟨0,0,0,([]:List UInt8),([]:List (List UInt8)),([]:List (List UInt8)),false,false⟩:Sub)).plan)),.d (slOf 1 rS (((alook o2c0p v1.sub).getD (⟨0,0,0,([]:List UInt8),([]:List (List UInt8)),([]:List (List UInt8)),false,false⟩:Sub)).numbers)),.d (slOf 1 rS (((alook o2c0p v1.sub).getD (⟨0,0,0,([]:List UInt8),([]:List (List UInt8)),([]:List (List UInt8)),false,false⟩:Sub)).products)),.d (cB (((alook o2c0p v1.sub).getD (⟨0,0,0,([]:List UInt8),([]:List (List UInt8)),([]:List (List UInt8)),false,false⟩:Sub)).suspended)),.d (cB (((alook o2c0p v1.sub).getD (⟨0,0,0,([]:List UInt8),([]:List (List UInt8)),([]:List (List UInt8)),false,false⟩:Sub)).family))]],[]⟩) (fun p=>iter (fun s=>g_customer_world_apply_l1 v1 o0c5p o0c6p o1c0p o2c0p o3c0p o5c0p s.1 s.2) p.1 p.2=some r) (·.1) (n1,(0,o4c0p)) H (.cons rfl (.rfl' _) (.cons rfl (.rfl' _) (.cons rfl (.rfl' _) (.cons rfl (.rfl' _) (.cons rfl (.rfl' _) (.cons rfl (.rfl' _) (.nil))))))) rfl ?_
      rintro ⟨m1,v153l1,o4c0l1⟩ HI ih1
      obtain ⟨n1,q1,hm1,H,HK1⟩:=iter_succ HI
      clear HI
      replace H:g_customer_world_apply_l1 v1 o0c5p o0c6p o1c0p o2c0p o3c0p o5c0p v153l1 o4c0l1=some q1:=H
      unfold g_customer_world_apply_l1 at H
      refine .A 5 [] rfl trivial ?_
      refine .ite H rfl (fun H=>?_) (fun H=>?_)
      ·obtain ⟨hk3,H⟩:=ck_some H
       obtain ⟨hk4,H⟩:=ck_some H
       refine .A 22 [.d (.ro (rS (nth (((alook o2c0p v1.sub).getD (⟨0,0,0,([]:List UInt8),([]:List (List UInt8)),([]:List (List UInt8)),false,false⟩:Sub)).numbers) v153l1.toNat))),.v (.d (.tup [])) ⟨[.row 116 [.mp 1,.mp 2,.mp 3,.mp 4,.mp 5,.d (slOf 1 rI o0c5p),.d (slOf 1 rI o0c6p)],.map (mEnc (fun n=>Value.int .i64 n) (fun x=>.agg (Account.row x)) o1c0p),.map (mEnc (fun n=>Value.int .i64 n) (fun x=>.agg (Sub.row x)) o2c0p),.map (mEnc (fun n=>Value.int .i64 n) (fun x=>cB x) o3c0p),.map (mEnc (fun s=>Value.string ⟨s.toArray⟩) (fun x=>cI x) (aerase o4c0l1 (nth (((alook o2c0p v1.sub).getD (⟨0,0,0,([]:List UInt8),([]:List (List UInt8)),([]:List (List UInt8)),false,false⟩:Sub)).numbers) v153l1.toNat))),.map (mEnc (fun n=>Value.int .i64 n) (fun x=>cI x) o5c0p),.row 43 [.d (cI v1.at_),.d (cI v1.kind),.d (cI v1.account),.d (cI v1.sub),.d (cS v1.number),.d (cS v1.name),.d (cI v1.value)],.row 38 [.d (cI (((alook o2c0p v1.sub).getD (⟨0,0,0,([]:List UInt8),([]:List (List UInt8)),([]:List (List UInt8)),false,false⟩:Sub)).id)),.d (cI (((alook o2c0p v1.sub).getD (⟨0,0,0,([]:List UInt8),([]:List (List UInt8)),([]:List (List UInt8)),false,false⟩:Sub)).account)),.d (cI (((alook o2c0p v1.sub).getD (⟨0,0,0,([]:List UInt8),([]:List (List UInt8)),([]:List (List UInt8)),false,false⟩:Sub)).since)),.d (cS (((alook o2c0p v1.sub).getD (⟨0,0,0,([]:List UInt8),([]:List (List UInt8)),([]:List (List UInt8)),false,false⟩:Sub)).plan)),.d (slOf 1 rS (((alook o2c0p v1.sub).getD (⟨0,0,0,([]:List UInt8),([]:List (List UInt8)),([]:List (List UInt8)),false,false⟩:Sub)).numbers)),.d (slOf 1 rS (((alook o2c0p v1.sub).getD (⟨0,0,0,([]:List UInt8),([]:List (List UInt8)),([]:List (List UInt8)),false,false⟩:Sub)).products)),.d (cB (((alook o2c0p v1.sub).getD (⟨0,0,0,([]:List UInt8),([]:List (List UInt8)),([]:List (List UInt8)),false,false⟩:Sub)).suspended)),.d (cB (((alook o2c0p v1.sub).getD (⟨0,0,0,([]:List UInt8),([]:List (List UInt8)),([]:List (List UInt8)),false,false⟩:Sub)).family))]],[]⟩,.i (v153l1+1)] rfl ⟨g_addI rfl rfl hk4,.e (v_deleteD (strKF underlying9) (l:=o4c0l1) (val:=(fun x=>cI x)) (k:=nth (((alook o2c0p v1.sub).getD (⟨0,0,0,([]:List UInt8),([]:List (List UInt8)),([]:List (List UInt8)),false,false⟩:Sub)).numbers) v153l1.toNat) underlying85 rfl rfl rfl (fun _ _ _ h=>exKey h)) rfl,s36.ix rfl rfl rfl hk3⟩ ?_
       cases H
       exact .z (ih1 (n1,(v153l1+1,aerase o4c0l1 (nth (((alook o2c0p v1.sub).getD (⟨0,0,0,([]:List UInt8),([]:List (List UInt8)),([]:List (List UInt8)),false,false⟩:Sub)).numbers) v153l1.toNat))) HK1 hm1) rfl rfl
      ·refine .A 1 [] rfl trivial ?_
       obtain ⟨q0,H9,hq0⟩:=map_some' H; clear H; cases hq0
       cases HK1
       have H:=H9
       exact .z (hj3x o4c0l1 H) rfl rfl
    ·refine .seqJoin (ι:=Bool) (fun v177j4=>[(0,.ref 0 0),(3,.ref 6 0),(177,.d (cB v177j4))]) (fun v177j4=>⟨[.row 116 [.mp 1,.mp 2,.mp 3,.mp 4,.mp 5,.d (slOf 1 rI o0c5p),.d (slOf 1 rI o0c6p)],.map (mEnc (fun n=>Value.int .i64 n) (fun x=>.agg (Account.row x)) o1c0p),.map (mEnc (fun n=>Value.int .i64 n) (fun x=>.agg (Sub.row x)) o2c0p),.map (mEnc (fun n=>Value.int .i64 n) (fun x=>cB x) o3c0p),.map (mEnc (fun s=>Value.string ⟨s.toArray⟩) (fun x=>cI x) o4c0p),.map (mEnc (fun n=>Value.int .i64 n) (fun x=>cI x) o5c0p),.row 43 [.d (cI v1.at_),.d (cI v1.kind),.d (cI v1.account),.d (cI v1.sub),.d (cS v1.number),.d (cS v1.name),.d (cI v1.value)]],[]⟩) (fun s=>g_customer_world_apply_j4 v1 o0c5p o0c6p o1c0p o2c0p o3c0p o4c0p o5c0p s=some r) ?_ ?_
     ·rintro v177j4 H
      replace H:g_customer_world_apply_j4 v1 o0c5p o0c6p o1c0p o2c0p o3c0p o4c0p o5c0p v177j4=some r:=H
      unfold g_customer_world_apply_j4 at H
      refine .ite H rfl (fun H=>?_) (fun H=>?_)
      ·refine .A 2 [] rfl trivial ?_
       refine .fin0 func64 results64 ?_
       cases H
       exact ⟨[0,1,2,3,4,5],[],rfl,(okCons rfl (okCons okMap (okCons okMap (okCons okMap (okCons okMap (okCons okMap rfl)))))),(by first | rfl | (simp only [List.map_cons,List.map_nil,renMap,renArr,mergeSt]; rfl)),(by first | rfl | (simp only [List.map_cons,List.map_nil,renMap,renArr,mergeSt]; rfl)),(by first | rfl | (simp only [List.map_cons,List.map_nil,renMap,renArr,mergeSt]; rfl)),(by first | rfl | (simp only [List.map_cons,List.map_nil,renMap,renArr,mergeSt]; rfl)),(by first | rfl | (simp only [List.map_cons,List.map_nil,renMap,renArr,mergeSt]; rfl)),(by first | rfl | (simp only [List.map_cons,List.map_nil,renMap,renArr,mergeSt]; rfl)),EVle.tupL (ds:=[]) trivial⟩
      ·refine .A 1 [] rfl trivial ?_
       refine .orders2 12 10 11 [⟨[.row 116 [.mp 1,.mp 2,.mp 3,.mp 4,.mp 5,.d (slOf 1 rI o0c5p),.d (slOf 1 rI o0c6p)],.map (mEnc (fun n=>Value.int .i64 n) (fun x=>.agg (Account.row x)) o1c0p),.map (mEnc (fun n=>Value.int .i64 n) (fun x=>.agg (Sub.row x)) o2c0p),.map (mEnc (fun n=>Value.int .i64 n) (fun x=>cB x) o3c0p),.map (mEnc (fun s=>Value.string ⟨s.toArray⟩) (fun x=>cI x) o4c0p),.map (mEnc (fun n=>Value.int .i64 n) (fun x=>cI x) o5c0p),.row 43 [.d (cI v1.at_),.d (cI v1.kind),.d (cI v1.account),.d (cI v1.sub),.d (cS v1.number),.d (cS v1.name),.d (cI v1.value)]],[]⟩,⟨[.row 116 [.mp 1,.mp 2,.mp 3,.mp 4,.mp 5,.d (slOf 1 rI o0c5p),.d (slOf 1 rI o0c6p)],.map (mEnc (fun n=>Value.int .i64 n) (fun x=>.agg (Account.row x)) o1c0p),.map (mEnc (fun n=>Value.int .i64 n) (fun x=>.agg (Sub.row x)) o2c0p),.map (mEnc (fun n=>Value.int .i64 n) (fun x=>cB x) o3c0p),.map (mEnc (fun s=>Value.string ⟨s.toArray⟩) (fun x=>cI x) o4c0p),.map (mEnc (fun n=>Value.int .i64 n) (fun x=>cI x) o5c0p),.row 43 [.d (cI v1.at_),.d (cI v1.kind),.d (cI v1.account),.d (cI v1.sub),.d (cS v1.number),.d (cS v1.name),.d (cI v1.value)],.row 38 [.d (cI 0),.d (cI 0),.d (cI 0),.d (cS ([]:List UInt8)),.d (nilD),.d (nilD),.d (cB false),.d (cB false)]],[]⟩,⟨[.row 116 [.mp 1,.mp 2,.mp 3,.mp 4,.mp 5,.d (slOf 1 rI o0c5p),.d (slOf 1 rI o0c6p)],.map (mEnc (fun n=>Value.int .i64 n) (fun x=>.agg (Account.row x)) o1c0p),.map (mEnc (fun n=>Value.int .i64 n) (fun x=>.agg (Sub.row x)) o2c0p),.map (mEnc (fun n=>Value.int .i64 n) (fun x=>cB x) o3c0p),.map (mEnc (fun s=>Value.string ⟨s.toArray⟩) (fun x=>cI x) o4c0p),.map (mEnc (fun n=>Value.int .i64 n) (fun x=>cI x) o5c0p),.row 43 [.d (cI v1.at_),.d (cI v1.kind),.d (cI v1.account),.d (cI v1.sub),.d (cS v1.number),.d (cS v1.name),.d (cI v1.value)],.row 38 [.d (cI (((alook o2c0p v1.sub).getD (⟨0,0,0,([]:List UInt8),([]:List (List UInt8)),([]:List (List UInt8)),false,false⟩:Sub)).id)),.d (cI (((alook o2c0p v1.sub).getD (⟨0,0,0,([]:List UInt8),([]:List (List UInt8)),([]:List (List UInt8)),false,false⟩:Sub)).account)),.d (cI (((alook o2c0p v1.sub).getD (⟨0,0,0,([]:List UInt8),([]:List (List UInt8)),([]:List (List UInt8)),false,false⟩:Sub)).since)),.d (cS (((alook o2c0p v1.sub).getD (⟨0,0,0,([]:List UInt8),([]:List (List UInt8)),([]:List (List UInt8)),false,false⟩:Sub)).plan)),.d (slOf 1 rS (((alook o2c0p v1.sub).getD (⟨0,0,0,([]:List UInt8),([]:List (List UInt8)),([]:List (List UInt8)),false,false⟩:Sub)).numbers)),.d (slOf 1 rS (((alook o2c0p v1.sub).getD (⟨0,0,0,([]:List UInt8),([]:List (List UInt8)),([]:List (List UInt8)),false,false⟩:Sub)).products)),.d (cB (((alook o2c0p v1.sub).getD (⟨0,0,0,([]:List UInt8),([]:List (List UInt8)),([]:List (List UInt8)),false,false⟩:Sub)).suspended)),.d (cB (((alook o2c0p v1.sub).getD (⟨0,0,0,([]:List UInt8),([]:List (List UInt8)),([]:List (List UInt8)),false,false⟩:Sub)).family))]],[]⟩] hMix (by kernel_rfl) (by decide) (by decide) (by kernel_rfl) rfl ?_
       show XOps _ _ _ _ _ _ _ _ _ _ (_ :: _) _ _
       refine .g (x:=.ref 0 0) 0 1 ⟨OpQ.g (q_move rfl),OpQ.g (q_move rfl),trivial⟩ rfl (by kernel_rfl) rfl ?_
       refine .g (x:=.ref 0 0) 0 1 ⟨OpQ.g (q_nilRef rfl),OpQ.g (q_nilRef rfl),trivial⟩ rfl (by kernel_rfl) rfl ?_
       refine .g (x:=.ref 0 1) 0 1 ⟨OpQ.g (q_fieldRef fo_116_1 rfl),OpQ.g (q_fieldRef fo_116_1 rfl),trivial⟩ rfl (by kernel_rfl) rfl ?_
       refine .g (x:=.mp 2) 0 1 ⟨OpQ.g (q_loadO one_112 rfl rfl rfl),OpQ.g (q_loadO one_112 rfl rfl rfl),trivial⟩ rfl (by kernel_rfl) rfl ?_
       refine .g (x:=.ref 6 3) 0 1 ⟨OpQ.g (q_fieldRef fo_43_3 rfl),OpQ.g (q_fieldRef fo_43_3 rfl),trivial⟩ rfl (by kernel_rfl) rfl ?_
       refine .g (x:=.d (cI v1.sub)) 0 1 ⟨OpQ.g (q_loadO one_3 rfl rfl rfl),OpQ.g (q_loadO one_3 rfl rfl rfl),trivial⟩ rfl (by kernel_rfl) rfl ?_
       refine .g (x:=.d (.tup [.agg (Sub.row ((alook o2c0p v1.sub).getD (⟨0,0,0,([]:List UInt8),([]:List (List UInt8)),([]:List (List UInt8)),false,false⟩:Sub))),cB ((alook o2c0p v1.sub).isSome)])) 0 1 ⟨OpQ.g (q_lookupOkD (intKF underlying3) (l:=o2c0p) (val:=(fun x=>.agg (Sub.row x))) (k:=v1.sub) (a0:=(⟨0,0,0,([]:List UInt8),([]:List (List UInt8)),([]:List (List UInt8)),false,false⟩:Sub)) underlying112 hi38 hz38 (show DLe (.agg [cI 0,cI 0,cI 0,cS ([]:List UInt8),nilD,nilD,cB false,cB false]) (.agg (Sub.row (⟨0,0,0,([]:List UInt8),([]:List (List UInt8)),([]:List (List UInt8)),false,false⟩:Sub))) from .agg ⟨.rfl' _,.rfl' _,.rfl' _,.rfl' _,.nil 1,.nil 1,.rfl' _,.rfl' _,trivial⟩) rfl rfl rfl (fun _ _ _ h=>exKey h)),OpQ.g (q_lookupOkD (intKF underlying3) (l:=o2c0p) (val:=(fun x=>.agg (Sub.row x))) (k:=v1.sub) (a0:=(⟨0,0,0,([]:List UInt8),([]:List (List UInt8)),([]:List (List UInt8)),false,false⟩:Sub)) underlying112 hi38 hz38 (show DLe (.agg [cI 0,cI 0,cI 0,cS ([]:List UInt8),nilD,nilD,cB false,cB false]) (.agg (Sub.row (⟨0,0,0,([]:List UInt8),([]:List (List UInt8)),([]:List (List UInt8)),false,false⟩:Sub))) from .agg ⟨.rfl' _,.rfl' _,.rfl' _,.rfl' _,.nil 1,.nil 1,.rfl' _,.rfl' _,trivial⟩) rfl rfl rfl (fun _ _ _ h=>exKey h)),trivial⟩ rfl (by kernel_rfl) rfl ?_
       refine .g (x:=.d (.tup [.agg (Sub.row ((alook o2c0p v1.sub).getD (⟨0,0,0,([]:List UInt8),([]:List (List UInt8)),([]:List (List UInt8)),false,false⟩:Sub))),cB ((alook o2c0p v1.sub).isSome)])) 0 1 ⟨OpQ.g (q_move rfl),OpQ.g (q_move rfl),trivial⟩ rfl (by kernel_rfl) rfl ?_
       refine .g (x:=.d (.agg (Sub.row ((alook o2c0p v1.sub).getD (⟨0,0,0,([]:List UInt8),([]:List (List UInt8)),([]:List (List UInt8)),false,false⟩:Sub))))) 0 1 ⟨OpQ.g (q_extract rfl rfl),OpQ.g (q_extract rfl rfl),trivial⟩ rfl (by kernel_rfl) rfl ?_
       refine .g (x:=.d (cB ((alook o2c0p v1.sub).isSome))) 0 2 ⟨OpQ.g (q_extract rfl rfl),OpQ.g (q_extract rfl rfl),OpQ.g (q_extract rfl rfl),trivial⟩ rfl (by kernel_rfl) rfl ?_
       refine .v (x:=.ref 7 0) 0 (v_alloc zr_38 rfl) rfl rfl rfl rfl ?_
       refine .u 1 (u_store rfl rfl rfl rfl (Nat.le_of_ble_eq_true rfl) sz_38) rfl rfl rfl rfl ?_
       refine .nil rfl ?_
       show AOps _ _ _ _ _ _ (_ :: _) _ _ _
       refine .A 6 [] rfl trivial ?_
       refine .ite H rfl (fun H=>?_) (fun H=>?_)
       ·obtain ⟨y3,hy3,H⟩:=bind_some' H
        refine .orders1 10 9 [⟨[.row 116 [.mp 1,.mp 2,.mp 3,.mp 4,.mp 5,.d (slOf 1 rI o0c5p),.d (slOf 1 rI o0c6p)],.map (mEnc (fun n=>Value.int .i64 n) (fun x=>.agg (Account.row x)) o1c0p),.map (mEnc (fun n=>Value.int .i64 n) (fun x=>.agg (Sub.row x)) o2c0p),.map (mEnc (fun n=>Value.int .i64 n) (fun x=>cB x) o3c0p),.map (mEnc (fun s=>Value.string ⟨s.toArray⟩) (fun x=>cI x) o4c0p),.map (mEnc (fun n=>Value.int .i64 n) (fun x=>cI x) o5c0p),.row 43 [.d (cI v1.at_),.d (cI v1.kind),.d (cI v1.account),.d (cI v1.sub),.d (cS v1.number),.d (cS v1.name),.d (cI v1.value)],.row 38 [.d (cI (((alook o2c0p v1.sub).getD (⟨0,0,0,([]:List UInt8),([]:List (List UInt8)),([]:List (List UInt8)),false,false⟩:Sub)).id)),.d (cI (((alook o2c0p v1.sub).getD (⟨0,0,0,([]:List UInt8),([]:List (List UInt8)),([]:List (List UInt8)),false,false⟩:Sub)).account)),.d (cI (((alook o2c0p v1.sub).getD (⟨0,0,0,([]:List UInt8),([]:List (List UInt8)),([]:List (List UInt8)),false,false⟩:Sub)).since)),.d (cS (((alook o2c0p v1.sub).getD (⟨0,0,0,([]:List UInt8),([]:List (List UInt8)),([]:List (List UInt8)),false,false⟩:Sub)).plan)),.d (slOf 1 rS (((alook o2c0p v1.sub).getD (⟨0,0,0,([]:List UInt8),([]:List (List UInt8)),([]:List (List UInt8)),false,false⟩:Sub)).numbers)),.d (slOf 1 rS (((alook o2c0p v1.sub).getD (⟨0,0,0,([]:List UInt8),([]:List (List UInt8)),([]:List (List UInt8)),false,false⟩:Sub)).products)),.d (cB (((alook o2c0p v1.sub).getD (⟨0,0,0,([]:List UInt8),([]:List (List UInt8)),([]:List (List UInt8)),false,false⟩:Sub)).suspended)),.d (cB (((alook o2c0p v1.sub).getD (⟨0,0,0,([]:List UInt8),([]:List (List UInt8)),([]:List (List UInt8)),false,false⟩:Sub)).family))]],[]⟩,⟨[.row 116 [.mp 1,.mp 2,.mp 3,.mp 4,.mp 5,.d (slOf 1 rI o0c5p),.d (slOf 1 rI o0c6p)],.map (mEnc (fun n=>Value.int .i64 n) (fun x=>.agg (Account.row x)) o1c0p),.map (mEnc (fun n=>Value.int .i64 n) (fun x=>.agg (Sub.row x)) o2c0p),.map (mEnc (fun n=>Value.int .i64 n) (fun x=>cB x) o3c0p),.map (mEnc (fun s=>Value.string ⟨s.toArray⟩) (fun x=>cI x) y3.2),.map (mEnc (fun n=>Value.int .i64 n) (fun x=>cI x) o5c0p),.row 43 [.d (cI v1.at_),.d (cI v1.kind),.d (cI v1.account),.d (cI v1.sub),.d (cS v1.number),.d (cS v1.name),.d (cI v1.value)],.row 38 [.d (cI (((alook o2c0p v1.sub).getD (⟨0,0,0,([]:List UInt8),([]:List (List UInt8)),([]:List (List UInt8)),false,false⟩:Sub)).id)),.d (cI (((alook o2c0p v1.sub).getD (⟨0,0,0,([]:List UInt8),([]:List (List UInt8)),([]:List (List UInt8)),false,false⟩:Sub)).account)),.d (cI (((alook o2c0p v1.sub).getD (⟨0,0,0,([]:List UInt8),([]:List (List UInt8)),([]:List (List UInt8)),false,false⟩:Sub)).since)),.d (cS (((alook o2c0p v1.sub).getD (⟨0,0,0,([]:List UInt8),([]:List (List UInt8)),([]:List (List UInt8)),false,false⟩:Sub)).plan)),.d (slOf 1 rS (((alook o2c0p v1.sub).getD (⟨0,0,0,([]:List UInt8),([]:List (List UInt8)),([]:List (List UInt8)),false,false⟩:Sub)).numbers)),.d (slOf 1 rS (((alook o2c0p v1.sub).getD (⟨0,0,0,([]:List UInt8),([]:List (List UInt8)),([]:List (List UInt8)),false,false⟩:Sub)).products)),.d (cB (((alook o2c0p v1.sub).getD (⟨0,0,0,([]:List UInt8),([]:List (List UInt8)),([]:List (List UInt8)),false,false⟩:Sub)).suspended)),.d (cB (((alook o2c0p v1.sub).getD (⟨0,0,0,([]:List UInt8),([]:List (List UInt8)),([]:List (List UInt8)),false,false⟩:Sub)).family))]],[]⟩] hMix (by kernel_rfl) (by decide) rfl ?_
        show XOps _ _ _ _ _ _ _ _ _ _ (_ :: _) _ _
        refine .g (x:=.ref 0 0) 0 1 ⟨OpQ.g (q_move rfl),OpQ.g (q_move rfl),trivial⟩ rfl (by kernel_rfl) rfl ?_
        refine .g (x:=.ref 0 0) 0 1 ⟨OpQ.g (q_nilRef rfl),OpQ.g (q_nilRef rfl),trivial⟩ rfl (by kernel_rfl) rfl ?_
        refine .g (x:=.ref 0 1) 0 1 ⟨OpQ.g (q_fieldRef fo_116_1 rfl),OpQ.g (q_fieldRef fo_116_1 rfl),trivial⟩ rfl (by kernel_rfl) rfl ?_
        refine .g (x:=.mp 2) 0 1 ⟨OpQ.g (q_loadO one_112 rfl rfl rfl),OpQ.g (q_loadO one_112 rfl rfl rfl),trivial⟩ rfl (by kernel_rfl) rfl ?_
        refine .g (x:=.ref 6 3) 0 1 ⟨OpQ.g (q_fieldRef fo_43_3 rfl),OpQ.g (q_fieldRef fo_43_3 rfl),trivial⟩ rfl (by kernel_rfl) rfl ?_
        refine .g (x:=.d (cI v1.sub)) 0 1 ⟨OpQ.g (q_loadO one_3 rfl rfl rfl),OpQ.g (q_loadO one_3 rfl rfl rfl),trivial⟩ rfl (by kernel_rfl) rfl ?_
        refine .g (x:=.ref 0 0) 0 0 ⟨OpQ.g (q_move rfl),trivial⟩ rfl (by kernel_rfl) rfl ?_
        refine .g (x:=.d (.agg (Sub.row ((alook o2c0p v1.sub).getD (⟨0,0,0,([]:List UInt8),([]:List (List UInt8)),([]:List (List UInt8)),false,false⟩:Sub))))) 0 0 ⟨OpQ.g (q_loadOA one_38 sz_38 rfl rfl (Nat.le_of_ble_eq_true rfl) rfl),trivial⟩ rfl (by kernel_rfl) rfl ?_
        refine .g (x:=.d (.agg (Event.row v1))) 0 0 ⟨OpQ.g (q_loadOA one_43 sz_43 rfl rfl (Nat.le_of_ble_eq_true rfl) rfl),trivial⟩ rfl (by kernel_rfl) rfl ?_
        refine .c 0 (OpC.callF (en 26 rfl) [0,1,2,3,4,5] [] (x:=.d (.agg (Sub.row y3.1))) (st':=⟨[.row 116 [.mp 1,.mp 2,.mp 3,.mp 4,.mp 5,.d (slOf 1 rI o0c5p),.d (slOf 1 rI o0c6p)],.map (mEnc (fun n=>Value.int .i64 n) (fun x=>.agg (Account.row x)) o1c0p),.map (mEnc (fun n=>Value.int .i64 n) (fun x=>.agg (Sub.row x)) o2c0p),.map (mEnc (fun n=>Value.int .i64 n) (fun x=>cB x) o3c0p),.map (mEnc (fun s=>Value.string ⟨s.toArray⟩) (fun x=>cI x) y3.2),.map (mEnc (fun n=>Value.int .i64 n) (fun x=>cI x) o5c0p),.row 43 [.d (cI v1.at_),.d (cI v1.kind),.d (cI v1.account),.d (cI v1.sub),.d (cS v1.number),.d (cS v1.name),.d (cI v1.value)],.row 38 [.d (cI (((alook o2c0p v1.sub).getD (⟨0,0,0,([]:List UInt8),([]:List (List UInt8)),([]:List (List UInt8)),false,false⟩:Sub)).id)),.d (cI (((alook o2c0p v1.sub).getD (⟨0,0,0,([]:List UInt8),([]:List (List UInt8)),([]:List (List UInt8)),false,false⟩:Sub)).account)),.d (cI (((alook o2c0p v1.sub).getD (⟨0,0,0,([]:List UInt8),([]:List (List UInt8)),([]:List (List UInt8)),false,false⟩:Sub)).since)),.d (cS (((alook o2c0p v1.sub).getD (⟨0,0,0,([]:List UInt8),([]:List (List UInt8)),([]:List (List UInt8)),false,false⟩:Sub)).plan)),.d (slOf 1 rS (((alook o2c0p v1.sub).getD (⟨0,0,0,([]:List UInt8),([]:List (List UInt8)),([]:List (List UInt8)),false,false⟩:Sub)).numbers)),.d (slOf 1 rS (((alook o2c0p v1.sub).getD (⟨0,0,0,([]:List UInt8),([]:List (List UInt8)),([]:List (List UInt8)),false,false⟩:Sub)).products)),.d (cB (((alook o2c0p v1.sub).getD (⟨0,0,0,([]:List UInt8),([]:List (List UInt8)),([]:List (List UInt8)),false,false⟩:Sub)).suspended)),.d (cB (((alook o2c0p v1.sub).getD (⟨0,0,0,([]:List UInt8),([]:List (List UInt8)),([]:List (List UInt8)),false,false⟩:Sub)).family))]],[]⟩) rfl (c_g_customer_world_changed (hy3)) ⟨.rfl' _,.rfl' _,.rfl' _,trivial⟩ rfl (okCons rfl (okCons okMap (okCons okMap (okCons okMap (okCons okMap (okCons okMap rfl)))))) (by first | rfl | (simp only [List.map_cons,List.map_nil,renMap,renArr,mergeSt]; rfl)) rfl rfl (by first | rfl | (simp only [List.map_cons,List.map_nil,renMap,renArr,mergeSt]; rfl))) rfl rfl rfl rfl ?_
        refine .nil rfl ?_
        show AOps _ _ _ _ _ _ (_ :: _) _ _ _
        refine .A 3 [.u ⟨[.row 116 [.mp 1,.mp 2,.mp 3,.mp 4,.mp 5,.d (slOf 1 rI o0c5p),.d (slOf 1 rI o0c6p)],.map (mEnc (fun n=>Value.int .i64 n) (fun x=>.agg (Account.row x)) o1c0p),.map (mEnc (fun n=>Value.int .i64 n) (fun x=>.agg (Sub.row x)) (aset o2c0p v1.sub y3.1)),.map (mEnc (fun n=>Value.int .i64 n) (fun x=>cB x) o3c0p),.map (mEnc (fun s=>Value.string ⟨s.toArray⟩) (fun x=>cI x) y3.2),.map (mEnc (fun n=>Value.int .i64 n) (fun x=>cI x) o5c0p),.row 43 [.d (cI v1.at_),.d (cI v1.kind),.d (cI v1.account),.d (cI v1.sub),.d (cS v1.number),.d (cS v1.name),.d (cI v1.value)],.row 38 [.d (cI (((alook o2c0p v1.sub).getD (⟨0,0,0,([]:List UInt8),([]:List (List UInt8)),([]:List (List UInt8)),false,false⟩:Sub)).id)),.d (cI (((alook o2c0p v1.sub).getD (⟨0,0,0,([]:List UInt8),([]:List (List UInt8)),([]:List (List UInt8)),false,false⟩:Sub)).account)),.d (cI (((alook o2c0p v1.sub).getD (⟨0,0,0,([]:List UInt8),([]:List (List UInt8)),([]:List (List UInt8)),false,false⟩:Sub)).since)),.d (cS (((alook o2c0p v1.sub).getD (⟨0,0,0,([]:List UInt8),([]:List (List UInt8)),([]:List (List UInt8)),false,false⟩:Sub)).plan)),.d (slOf 1 rS (((alook o2c0p v1.sub).getD (⟨0,0,0,([]:List UInt8),([]:List (List UInt8)),([]:List (List UInt8)),false,false⟩:Sub)).numbers)),.d (slOf 1 rS (((alook o2c0p v1.sub).getD (⟨0,0,0,([]:List UInt8),([]:List (List UInt8)),([]:List (List UInt8)),false,false⟩:Sub)).products)),.d (cB (((alook o2c0p v1.sub).getD (⟨0,0,0,([]:List UInt8),([]:List (List UInt8)),([]:List (List UInt8)),false,false⟩:Sub)).suspended)),.d (cB (((alook o2c0p v1.sub).getD (⟨0,0,0,([]:List UInt8),([]:List (List UInt8)),([]:List (List UInt8)),false,false⟩:Sub)).family))]],[]⟩] rfl (.e (u_mapUpdateD (intKF underlying3) (l:=o2c0p) (val:=(fun x=>.agg (Sub.row x))) (k:=v1.sub) (a:=y3.1) underlying112 rfl rfl rfl (fun _ _ _ h=>exKey h) rfl (.rfl' _)) rfl) ?_
        refine .fin0 func64 results64 ?_
        cases H
        exact ⟨[0,1,2,3,4,5],[],rfl,(okCons rfl (okCons okMap (okCons okMap (okCons okMap (okCons okMap (okCons okMap rfl)))))),(by first | rfl | (simp only [List.map_cons,List.map_nil,renMap,renArr,mergeSt]; rfl)),(by first | rfl | (simp only [List.map_cons,List.map_nil,renMap,renArr,mergeSt]; rfl)),(by first | rfl | (simp only [List.map_cons,List.map_nil,renMap,renArr,mergeSt]; rfl)),(by first | rfl | (simp only [List.map_cons,List.map_nil,renMap,renArr,mergeSt]; rfl)),(by first | rfl | (simp only [List.map_cons,List.map_nil,renMap,renArr,mergeSt]; rfl)),(by first | rfl | (simp only [List.map_cons,List.map_nil,renMap,renArr,mergeSt]; rfl)),EVle.tupL (ds:=[]) trivial⟩
       ·refine .A 2 [] rfl trivial ?_
        refine .fin0 func64 results64 ?_
        cases H
        exact ⟨[0,1,2,3,4,5],[],rfl,(okCons rfl (okCons okMap (okCons okMap (okCons okMap (okCons okMap (okCons okMap rfl)))))),(by first | rfl | (simp only [List.map_cons,List.map_nil,renMap,renArr,mergeSt]; rfl)),(by first | rfl | (simp only [List.map_cons,List.map_nil,renMap,renArr,mergeSt]; rfl)),(by first | rfl | (simp only [List.map_cons,List.map_nil,renMap,renArr,mergeSt]; rfl)),(by first | rfl | (simp only [List.map_cons,List.map_nil,renMap,renArr,mergeSt]; rfl)),(by first | rfl | (simp only [List.map_cons,List.map_nil,renMap,renArr,mergeSt]; rfl)),(by first | rfl | (simp only [List.map_cons,List.map_nil,renMap,renArr,mergeSt]; rfl)),EVle.tupL (ds:=[]) trivial⟩
     ·intro hj4
      refine .A 5 [] rfl trivial ?_
      refine .ite H rfl (fun H=>?_) (fun H=>?_)
      ·refine .A 1 [] rfl trivial ?_
       exact .z (hj4 (v1.kind==14) H) rfl rfl
      ·refine .A 4 [] rfl trivial ?_
       exact .z (hj4 (v1.kind==15) H) rfl rfl
theorem c_f_customer_upto_1 {o8c0p:List Event} {o9c0p:Int} {o1c5p:List Int} {o1c6p:List Int} {o2c0p:List (Int×Account)} {o3c0p:List (Int×Sub)} {o4c0p:List (Int×Bool)} {o5c0p:List ((List UInt8)×Int)} {o6c0p:List (Int×Int)} {r:(List Int)×(List Int)×(List (Int×Account))×(List (Int×Sub))×(List (Int×Bool))×(List ((List UInt8)×Int))×(List (Int×Int))} (H:f_customer_upto_1 o8c0p o9c0p o1c5p o1c6p o2c0p o3c0p o4c0p o5c0p o6c0p=some r) {rec:Loop} (hp:rec.params=#[11]) {S:Go.Abs.Start} {l:Nat} (hS:S.st=⟨[.row 62 [.d (nilD),.d (nilD)],.row 116 [.mp 2,.mp 3,.mp 4,.mp 5,.mp 6,.d (slOf 1 rI o1c5p),.d (slOf 1 rI o1c6p)],.map (mEnc (fun n=>Value.int .i64 n) (fun x=>.agg (Account.row x)) o2c0p),.map (mEnc (fun n=>Value.int .i64 n) (fun x=>.agg (Sub.row x)) o3c0p),.map (mEnc (fun n=>Value.int .i64 n) (fun x=>cB x) o4c0p),.map (mEnc (fun s=>Value.string ⟨s.toArray⟩) (fun x=>cI x) o5c0p),.map (mEnc (fun n=>Value.int .i64 n) (fun x=>cI x) o6c0p),.row 102 [.ref 1 0],.row 22 [.d (slOf 7 Event.row o8c0p)],.row 3 [.d (cI o9c0p)],.raw (.deferred (some [])),.raw (.loop rec)],[]⟩) (hi:Inv S.g S.base S.w S.st) (hl:S.g.ob 11=l) {vs:Array Value} (ha:ArgsRep S.g S.w S.st [.d (.ex (.func (.yield l) #[] #[])),.ref 8 0,.ref 9 0] vs) (hround:∀ (S2:Go.Abs.Start) (o1c5p:List Int) (o1c6p:List Int) (o2c0p:List (Int×Account)) (o3c0p:List (Int×Sub)) (o4c0p:List (Int×Bool)) (o5c0p:List ((List UInt8)×Int)) (o6c0p:List (Int×Int)) (y:(List Int)×(List Int)×(List (Int×Account))×(List (Int×Sub))×(List (Int×Bool))×(List ((List UInt8)×Int))×(List (Int×Int))) (e:Event),f_customer_State_r e o1c5p o1c6p o2c0p o3c0p o4c0p o5c0p o6c0p=some y→SEvo S.g S.w S.st S2.g S2.w S2.st→S2.base=S.base→S2.st=⟨[.row 62 [.d (nilD),.d (nilD)],.row 116 [.mp 2,.mp 3,.mp 4,.mp 5,.mp 6,.d (slOf 1 rI o1c5p),.d (slOf 1 rI o1c6p)],.map (mEnc (fun n=>Value.int .i64 n) (fun x=>.agg (Account.row x)) o2c0p),.map (mEnc (fun n=>Value.int .i64 n) (fun x=>.agg (Sub.row x)) o3c0p),.map (mEnc (fun n=>Value.int .i64 n) (fun x=>cB x) o4c0p),.map (mEnc (fun s=>Value.string ⟨s.toArray⟩) (fun x=>cI x) o5c0p),.map (mEnc (fun n=>Value.int .i64 n) (fun x=>cI x) o6c0p),.row 102 [.ref 1 0],.row 22 [.d (slOf 7 Event.row o8c0p)],.row 3 [.d (cI o9c0p)],.raw (.deferred (some [])),.raw (.loop rec),.row 43 [.d (cI e.at_),.d (cI e.kind),.d (cI e.account),.d (cI e.sub),.d (cS e.number),.d (cS e.name),.d (cI e.value)]],[]⟩→Inv S2.g S2.base S2.w S2.st→∀ v,DRep S2.g.lim S2.w (.agg (Event.row e)) v→FWP prog ⟨rec.fn,[],some l⟩ (RPost S2 fun _ st2=>∃ r2,st2.objs[11]?=some (.raw (.loop r2))∧⟨[.row 62 [.d (nilD),.d (nilD)],.row 116 [.mp 2,.mp 3,.mp 4,.mp 5,.mp 6,.d (slOf 1 rI y.1),.d (slOf 1 rI y.2.1)],.map (mEnc (fun n=>Value.int .i64 n) (fun x=>.agg (Account.row x)) y.2.2.1),.map (mEnc (fun n=>Value.int .i64 n) (fun x=>.agg (Sub.row x)) y.2.2.2.1),.map (mEnc (fun n=>Value.int .i64 n) (fun x=>cB x) y.2.2.2.2.1),.map (mEnc (fun s=>Value.string ⟨s.toArray⟩) (fun x=>cI x) y.2.2.2.2.2.1),.map (mEnc (fun n=>Value.int .i64 n) (fun x=>cI x) y.2.2.2.2.2.2),.row 102 [.ref 1 0],.row 22 [.d (slOf 7 Event.row o8c0p)],.row 3 [.d (cI o9c0p)],.raw (.deferred (some [])),.raw (.loop rec),.row 43 [.d (cI e.at_),.d (cI e.kind),.d (cI e.account),.d (cI e.sub),.d (cS e.number),.d (cS e.name),.d (cI e.value)]],[]⟩=st2.set 11 (.raw (.loop { r2 with state:=.ready,pending:=none }))) [.code rec.assign,.beginRound,.code rec.body] (rec.tmps.setIfInBounds 11 v) S2.w) :
  Calls prog 70 vs S.w (RPost S fun _ st2=>st2=⟨[.row 62 [.d (nilD),.d (nilD)],.row 116 [.mp 2,.mp 3,.mp 4,.mp 5,.mp 6,.d (slOf 1 rI r.1),.d (slOf 1 rI r.2.1)],.map (mEnc (fun n=>Value.int .i64 n) (fun x=>.agg (Account.row x)) r.2.2.1),.map (mEnc (fun n=>Value.int .i64 n) (fun x=>.agg (Sub.row x)) r.2.2.2.1),.map (mEnc (fun n=>Value.int .i64 n) (fun x=>cB x) r.2.2.2.2.1),.map (mEnc (fun s=>Value.string ⟨s.toArray⟩) (fun x=>cI x) r.2.2.2.2.2.1),.map (mEnc (fun n=>Value.int .i64 n) (fun x=>cI x) r.2.2.2.2.2.2),.row 102 [.ref 1 0],.row 22 [.d (slOf 7 Event.row o8c0p)],.row 3 [.d (cI o9c0p)],.raw (.deferred (some [])),.raw (.loop rec)],[]⟩):=by
 refine Calls.enterS func70 rfl ntmps70 rfl hi ha ?_
 rw [hS]
 unfold f_customer_upto_1 at H
 refine .A 7 [.i (o8c0p.length:Int)] rfl (s22.n rfl rfl) ?_
 obtain ⟨n1,H⟩:=loop_some H
 refine .loop (ι:=Nat×(Int×List Int×List Int×(List (Int×Account))×(List (Int×Sub))×(List (Int×Bool))×(List ((List UInt8)×Int))×(List (Int×Int)))) (fun ⟨_,v8l1,o1c5l1,o1c6l1,o2c0l1,o3c0l1,o4c0l1,o5c0l1,o6c0l1⟩=>[(0,.d (.ex (.func (.yield l) #[] #[]))),(2,.ref 9 0),(6,.d (slOf 7 Event.row o8c0p)),(7,.d (cI (o8c0p.length:Int))),(8,.d (cI v8l1))]) (fun ⟨_,v8l1,o1c5l1,o1c6l1,o2c0l1,o3c0l1,o4c0l1,o5c0l1,o6c0l1⟩=>⟨[.row 62 [.d (nilD),.d (nilD)],.row 116 [.mp 2,.mp 3,.mp 4,.mp 5,.mp 6,.d (slOf 1 rI o1c5l1),.d (slOf 1 rI o1c6l1)],.map (mEnc (fun n=>Value.int .i64 n) (fun x=>.agg (Account.row x)) o2c0l1),.map (mEnc (fun n=>Value.int .i64 n) (fun x=>.agg (Sub.row x)) o3c0l1),.map (mEnc (fun n=>Value.int .i64 n) (fun x=>cB x) o4c0l1),.map (mEnc (fun s=>Value.string ⟨s.toArray⟩) (fun x=>cI x) o5c0l1),.map (mEnc (fun n=>Value.int .i64 n) (fun x=>cI x) o6c0l1),.row 102 [.ref 1 0],.row 22 [.d (slOf 7 Event.row o8c0p)],.row 3 [.d (cI o9c0p)],.raw (.deferred (some [])),.raw (.loop rec)],[]⟩) (fun p=>iter (fun s=>f_customer_upto_1_l1 o8c0p o9c0p s.1 s.2.1 s.2.2.1 s.2.2.2.1 s.2.2.2.2.1 s.2.2.2.2.2.1 s.2.2.2.2.2.2.1 s.2.2.2.2.2.2.2) p.1 p.2=some r) (·.1) (n1,(0,o1c5p,o1c6p,o2c0p,o3c0p,o4c0p,o5c0p,o6c0p)) H (.cons rfl (.rfl' _) (.cons rfl (.rfl' _) (.cons rfl (.rfl' _) (.cons rfl (.rfl' _) (.cons rfl (.rfl' _) (.nil)))))) rfl ?_
 rintro ⟨m1,v8l1,o1c5l1,o1c6l1,o2c0l1,o3c0l1,o4c0l1,o5c0l1,o6c0l1⟩ HI ih1
 obtain ⟨n1,q1,hm1,H,HK1⟩:=iter_succ HI
 clear HI
 replace H:f_customer_upto_1_l1 o8c0p o9c0p v8l1 o1c5l1 o1c6l1 o2c0l1 o3c0l1 o4c0l1 o5c0l1 o6c0l1=some q1:=H
 unfold f_customer_upto_1_l1 at H
 refine .A 5 [] rfl trivial ?_
 refine .ite H rfl (fun H=>?_) (fun H=>?_)
 ·obtain ⟨hk1,H⟩:=ck_some H
  refine .A 11 [.d (.ro (Event.row (nth o8c0p v8l1.toNat))),.r 12] rfl (s22.ix rfl rfl rfl hk1) ?_
  refine .split (decide (((nth o8c0p v8l1.toNat).at_)≤o9c0p)) (fun hsp1=>?_) (fun hsp1=>?_)
  ·replace H:=ifT hsp1 H
   obtain ⟨y1,hy1,H⟩:=bind_some' H
   refine .B 8 [] rfl trivial ?_
   refine .yieldG (b:=decide (((nth o8c0p v8l1.toNat).at_)≤o9c0p)) (st':=⟨[.row 62 [.d (nilD),.d (nilD)],.row 116 [.mp 2,.mp 3,.mp 4,.mp 5,.mp 6,.d (slOf 1 rI y1.1),.d (slOf 1 rI y1.2.1)],.map (mEnc (fun n=>Value.int .i64 n) (fun x=>.agg (Account.row x)) y1.2.2.1),.map (mEnc (fun n=>Value.int .i64 n) (fun x=>.agg (Sub.row x)) y1.2.2.2.1),.map (mEnc (fun n=>Value.int .i64 n) (fun x=>cB x) y1.2.2.2.2.1),.map (mEnc (fun s=>Value.string ⟨s.toArray⟩) (fun x=>cI x) y1.2.2.2.2.2.1),.map (mEnc (fun n=>Value.int .i64 n) (fun x=>cI x) y1.2.2.2.2.2.2),.row 102 [.ref 1 0],.row 22 [.d (slOf 7 Event.row o8c0p)],.row 3 [.d (cI o9c0p)],.raw (.deferred (some [])),.raw (.loop rec),.row 43 [.d (cI ((nth o8c0p v8l1.toNat).at_)),.d (cI ((nth o8c0p v8l1.toNat).kind)),.d (cI ((nth o8c0p v8l1.toNat).account)),.d (cI ((nth o8c0p v8l1.toNat).sub)),.d (cS ((nth o8c0p v8l1.toNat).number)),.d (cS ((nth o8c0p v8l1.toNat).name)),.d (cI ((nth o8c0p v8l1.toNat).value))]],[]⟩) rfl rfl rfl hsp1 rfl rfl rfl rfl (by rw [hS]; exact Nat.le_of_ble_eq_true rfl) hl hp (fun S2 a1 a2 a3 a4 v hv=>hround S2 _ _ _ _ _ _ _ _ _ hy1 a1 a2 a3 a4 v hv) ?_
   refine .A 3 [] rfl ⟨rfl,rfl⟩ ?_
   refine .cond rfl (fun hc=>absurd hc (by simp)) (fun hc=>?_)
   clear hc
   obtain ⟨hk2,H⟩:=ck_some H
   refine .A 6 [.i (v8l1+1)] rfl (g_addI rfl rfl hk2) ?_
   cases H
   exact .t 12 0 (ih1 (n1,(v8l1+1,y1.1,y1.2.1,y1.2.2.1,y1.2.2.2.1,y1.2.2.2.2.1,y1.2.2.2.2.2.1,y1.2.2.2.2.2.2)) HK1 hm1) rfl rfl rfl rfl (okBoth rfl (okCons rfl (okCons rfl (okCons okMap (okCons okMap (okCons okMap (okCons okMap (okCons okMap (okCons rfl (okCons rfl (okCons rfl (okCons rfl (okCons rfl rfl))))))))))))) hS rfl
  ·replace H:=ifF hsp1 H
   refine .B 8 [] rfl trivial ?_
   refine .guardG (b:=decide (((nth o8c0p v8l1.toNat).at_)≤o9c0p)) (x:=.d (cB true)) (env':=[(17,_),(18,_)]) rfl rfl rfl ⟨.inr (.inl rfl),⟨.inr (.inl rfl),trivial⟩⟩ rfl (fun hg=>absurd hg (by rw [hsp1]; decide)) ?_
   refine .A 3 [] rfl ⟨rfl,rfl⟩ ?_
   refine .cond rfl (fun hc=>absurd hc (by simp)) (fun hc=>?_)
   clear hc
   obtain ⟨hk3,H⟩:=ck_some H
   refine .A 6 [.i (v8l1+1)] rfl (g_addI rfl rfl hk3) ?_
   cases H
   exact .t 12 0 (ih1 (n1,(v8l1+1,o1c5l1,o1c6l1,o2c0l1,o3c0l1,o4c0l1,o5c0l1,o6c0l1)) HK1 hm1) rfl rfl rfl rfl (okBoth rfl (okCons rfl (okCons rfl (okCons okMap (okCons okMap (okCons okMap (okCons okMap (okCons okMap (okCons rfl (okCons rfl (okCons rfl (okCons rfl (okCons rfl rfl))))))))))))) hS rfl
 ·refine .A 1 [] rfl trivial ?_
  refine .fin0 func70 results70 ?_
  cases H
  cases HK1
  rfl
theorem c_g_customer_world_customers {o0c5p:List Int} {o0c6p:List Int} {o1c0p:List (Int×Account)} {o2c0p:List (Int×Sub)} {o3c0p:List (Int×Bool)} {o4c0p:List ((List UInt8)×Int)} {o5c0p:List (Int×Int)} {r:Customers} (H:g_customer_world_customers o0c5p o0c6p o1c0p o2c0p o3c0p o4c0p o5c0p=some r):ACallS prog 65 [.ref 0 0] ⟨[.row 116 [.mp 1,.mp 2,.mp 3,.mp 4,.mp 5,.d (slOf 1 rI o0c5p),.d (slOf 1 rI o0c6p)],.map (mEnc (fun n=>Value.int .i64 n) (fun x=>.agg (Account.row x)) o1c0p),.map (mEnc (fun n=>Value.int .i64 n) (fun x=>.agg (Sub.row x)) o2c0p),.map (mEnc (fun n=>Value.int .i64 n) (fun x=>cB x) o3c0p),.map (mEnc (fun s=>Value.string ⟨s.toArray⟩) (fun x=>cI x) o4c0p),.map (mEnc (fun n=>Value.int .i64 n) (fun x=>cI x) o5c0p)],[]⟩ (QE (.d (.agg (Customers.row r))) ⟨[.row 116 [.mp 1,.mp 2,.mp 3,.mp 4,.mp 5,.d (slOf 1 rI o0c5p),.d (slOf 1 rI o0c6p)],.map (mEnc (fun n=>Value.int .i64 n) (fun x=>.agg (Account.row x)) o1c0p),.map (mEnc (fun n=>Value.int .i64 n) (fun x=>.agg (Sub.row x)) o2c0p),.map (mEnc (fun n=>Value.int .i64 n) (fun x=>cB x) o3c0p),.map (mEnc (fun s=>Value.string ⟨s.toArray⟩) (fun x=>cI x) o4c0p),.map (mEnc (fun n=>Value.int .i64 n) (fun x=>cI x) o5c0p)],[]⟩):=by
 obtain ⟨i3,hi3,hz3,hs3,hb3⟩:=in_3
 obtain ⟨i38,hi38,hz38,hs38,hb38⟩:=in_38
 obtain ⟨i65,hi65,hz65,hs65,hb65⟩:=in_65
 obtain ⟨i77,hi77,hz77,hs77,hb77⟩:=in_77
 refine ACallS.keep ?_
 refine ACallS.enter func65 rfl ntmps65 rfl fun S hS=>?_
 unfold g_customer_world_customers at H
 refine .AH 23 [.r 6,.r 7,.v (.mp 8) ⟨[.row 116 [.mp 1,.mp 2,.mp 3,.mp 4,.mp 5,.d (slOf 1 rI o0c5p),.d (slOf 1 rI o0c6p)],.map (mEnc (fun n=>Value.int .i64 n) (fun x=>.agg (Account.row x)) o1c0p),.map (mEnc (fun n=>Value.int .i64 n) (fun x=>.agg (Sub.row x)) o2c0p),.map (mEnc (fun n=>Value.int .i64 n) (fun x=>cB x) o3c0p),.map (mEnc (fun s=>Value.string ⟨s.toArray⟩) (fun x=>cI x) o4c0p),.map (mEnc (fun n=>Value.int .i64 n) (fun x=>cI x) o5c0p),.row 62 [.d (nilD),.d (nilD)],.row 62 [.d (nilD),.d (nilD)],.map (mEnc (fun n=>Value.int .i64 n) (fun x=>slOf 1 rI x) ([]:List (Int×(List Int))))],[]⟩,.i (o0c6p.length:Int)] rfl ⟨s65.n rfl rfl,.e (v_makeMap) rfl⟩ ?_
 refine .tokCell (o:=7) (ci:=1) (e:=38) (sz:=8) rfl rfl ?_
 refine .blockJoin2 (ι:=List Sub×(List (Int×(List Int)))) (fun ⟨o7c1j1,o8c0j1⟩=>[(0,.ref 0 0),(2,.ref 6 0),(3,.ref 7 0),(4,.mp 8)]) (fun ⟨o7c1j1,o8c0j1⟩=>⟨[.row 116 [.mp 1,.mp 2,.mp 3,.mp 4,.mp 5,.d (slOf 1 rI o0c5p),.d (slOf 1 rI o0c6p)],.map (mEnc (fun n=>Value.int .i64 n) (fun x=>.agg (Account.row x)) o1c0p),.map (mEnc (fun n=>Value.int .i64 n) (fun x=>.agg (Sub.row x)) o2c0p),.map (mEnc (fun n=>Value.int .i64 n) (fun x=>cB x) o3c0p),.map (mEnc (fun s=>Value.string ⟨s.toArray⟩) (fun x=>cI x) o4c0p),.map (mEnc (fun n=>Value.int .i64 n) (fun x=>cI x) o5c0p),.row 62 [.d (nilD),.d (nilD)],.row 62 [.d (nilD),.tsl 8 (o7c1j1.map Sub.row) 0],.map (encE (fun n=>Value.int .i64 n) (gEnc 1 rI 1 o8c0j1))],⟨38,8,o7c1j1.length,none⟩ :: gTails 3 1 o8c0j1⟩) (fun s=>g_customer_world_customers_j1 o0c5p o1c0p s.1 s.2=some r) ?_ ?_
 ·rintro ⟨o7c1j1,o8c0j1⟩ H
  replace H:g_customer_world_customers_j1 o0c5p o1c0p o7c1j1 o8c0j1=some r:=H
  unfold g_customer_world_customers_j1 at H
  refine .AH 11 [.i (o0c5p.length:Int)] rfl (s65.n rfl rfl) ?_
  refine .gfreeze (env':=[(0,.ref 0 0),(2,.ref 6 0),(3,.ref 7 0),(4,.mp 8),(53,.d (slOf 1 rI o0c5p)),(54,.d (cI (o0c5p.length:Int))),(55,.d (cI 0))]) (st':=⟨[.row 116 [.mp 1,.mp 2,.mp 3,.mp 4,.mp 5,.d (slOf 1 rI o0c5p),.d (slOf 1 rI o0c6p)],.map (mEnc (fun n=>Value.int .i64 n) (fun x=>.agg (Account.row x)) o1c0p),.map (mEnc (fun n=>Value.int .i64 n) (fun x=>.agg (Sub.row x)) o2c0p),.map (mEnc (fun n=>Value.int .i64 n) (fun x=>cB x) o3c0p),.map (mEnc (fun s=>Value.string ⟨s.toArray⟩) (fun x=>cI x) o4c0p),.map (mEnc (fun n=>Value.int .i64 n) (fun x=>cI x) o5c0p),.row 62 [.d (nilD),.d (nilD)],.row 62 [.d (nilD),.tsl 8 (o7c1j1.map Sub.row) 0],.map (mEnc (fun n=>Value.int .i64 n) (fun x=>slOf 1 rI x) o8c0j1)],[⟨38,8,o7c1j1.length,none⟩]⟩) (e:=3) (sz:=1) (t0:=1) (row:=rI) (T:=[⟨38,8,o7c1j1.length,none⟩]) (l:=o8c0j1) (ke:=(fun n=>Value.int .i64 n)) 8 rfl rfl rfl rfl rfl (okBoth rfl (okCons rfl (okCons okMap (okCons okMap (okCons okMap (okCons okMap (okCons okMap (okCons rfl (okCons rfl (okCons okMap rfl)))))))))) (by rw [hS]; exact Nat.le_of_ble_eq_true rfl) (by rw [hS]; exact Nat.le_of_ble_eq_true rfl) ?_
  refine .tokCell (o:=7) (ci:=0) (e:=77) (sz:=6) rfl rfl ?_
  obtain ⟨n1,H⟩:=loop_some H
  refine .loop (ι:=Nat×(Int×List Account)) (fun ⟨_,v55l1,o7c0l1⟩=>[(0,.ref 0 0),(2,.ref 6 0),(3,.ref 7 0),(4,.mp 8),(53,.d (slOf 1 rI o0c5p)),(54,.d (cI (o0c5p.length:Int))),(55,.d (cI v55l1))]) (fun ⟨_,v55l1,o7c0l1⟩=>⟨[.row 116 [.mp 1,.mp 2,.mp 3,.mp 4,.mp 5,.d (slOf 1 rI o0c5p),.d (slOf 1 rI o0c6p)],.map (mEnc (fun n=>Value.int .i64 n) (fun x=>.agg (Account.row x)) o1c0p),.map (mEnc (fun n=>Value.int .i64 n) (fun x=>.agg (Sub.row x)) o2c0p),.map (mEnc (fun n=>Value.int .i64 n) (fun x=>cB x) o3c0p),.map (mEnc (fun s=>Value.string ⟨s.toArray⟩) (fun x=>cI x) o4c0p),.map (mEnc (fun n=>Value.int .i64 n) (fun x=>cI x) o5c0p),.row 62 [.d (nilD),.d (nilD)],.row 62 [.tsl 6 (o7c0l1.map Account.row) 1,.tsl 8 (o7c1j1.map Sub.row) 0],.map (mEnc (fun n=>Value.int .i64 n) (fun x=>slOf 1 rI x) o8c0j1)],[⟨38,8,o7c1j1.length,none⟩,⟨77,6,o7c0l1.length,none⟩]⟩) (fun p=>iter (fun s=>g_customer_world_customers_l1 o0c5p o1c0p o7c1j1 o8c0j1 s.1 s.2) p.1 p.2=some r) (·.1) (n1,(0,([]:List Account))) H (.cons rfl (.rfl' _) (.cons rfl (.rfl' _) (.cons rfl (.rfl' _) (.cons rfl (.rfl' _) (.cons rfl (.rfl' _) (.cons rfl (.rfl' _) (.cons rfl (.rfl' _) (.nil)))))))) rfl ?_
  rintro ⟨m1,v55l1,o7c0l1⟩ HI ih1
  obtain ⟨n1,q1,hm1,H,HK1⟩:=iter_succ HI
  clear HI
  replace H:g_customer_world_customers_l1 o0c5p o1c0p o7c1j1 o8c0j1 v55l1 o7c0l1=some q1:=H
  unfold g_customer_world_customers_l1 at H
  refine .AH 5 [] rfl trivial ?_
  refine .ite H rfl (fun H=>?_) (fun H=>?_)
  ·obtain ⟨hk1,H⟩:=ck_some H
   obtain ⟨hk2,H⟩:=ck_some H
   obtain ⟨hk3,H⟩:=ck_some H
   refine .AH 42 [.d (.ro (rI (nth o0c5p v55l1.toNat))),.d (.agg (Account.row ((alook o1c0p (nth o0c5p v55l1.toNat)).getD (⟨0,0,0,false,false,([]:List Int)⟩:Account)))),.r 9,.d (slOf 1 rI ((alook o8c0j1 (nth o0c5p v55l1.toNat)).getD ([]:List Int))),.d (slOf 6 Account.row ([(⟨((alook o1c0p (nth o0c5p v55l1.toNat)).getD (⟨0,0,0,false,false,([]:List Int)⟩:Account)).id,((alook o1c0p (nth o0c5p v55l1.toNat)).getD (⟨0,0,0,false,false,([]:List Int)⟩:Account)).since,((alook o1c0p (nth o0c5p v55l1.toNat)).getD (⟨0,0,0,false,false,([]:List Int)⟩:Account)).anchor,((alook o1c0p (nth o0c5p v55l1.toNat)).getD (⟨0,0,0,false,false,([]:List Int)⟩:Account)).prepaid,((alook o1c0p (nth o0c5p v55l1.toNat)).getD (⟨0,0,0,false,false,([]:List Int)⟩:Account)).closed,(alook o8c0j1 (nth o0c5p v55l1.toNat)).getD ([]:List Int)⟩:Account)]:List Account)),.a 1 77 6 Account.row (o7c0l1++([(⟨((alook o1c0p (nth o0c5p v55l1.toNat)).getD (⟨0,0,0,false,false,([]:List Int)⟩:Account)).id,((alook o1c0p (nth o0c5p v55l1.toNat)).getD (⟨0,0,0,false,false,([]:List Int)⟩:Account)).since,((alook o1c0p (nth o0c5p v55l1.toNat)).getD (⟨0,0,0,false,false,([]:List Int)⟩:Account)).anchor,((alook o1c0p (nth o0c5p v55l1.toNat)).getD (⟨0,0,0,false,false,([]:List Int)⟩:Account)).prepaid,((alook o1c0p (nth o0c5p v55l1.toNat)).getD (⟨0,0,0,false,false,([]:List Int)⟩:Account)).closed,(alook o8c0j1 (nth o0c5p v55l1.toNat)).getD ([]:List Int)⟩:Account)]:List Account)),.i (v55l1+1)] rfl ⟨g_addI rfl rfl hk3,s59.a rfl rfl rfl rfl hk2,g_buildSlice1 underlying59 hi77 hs77 hz77 rfl rfl rfl rfl rfl,OpQ.g (q_lookupD (intKF underlying3) (l:=o8c0j1) (val:=(fun x=>slOf 1 rI x)) (k:=nth o0c5p v55l1.toNat) (a0:=([]:List Int)) underlying119 hi65 hz65 (show DLe (nilD) (slOf 1 rI ([]:List Int)) from .nil 1) rfl rfl rfl (fun _ _ _ h=>exKey h)),OpQ.g (q_lookupD (intKF underlying3) (l:=o1c0p) (val:=(fun x=>.agg (Account.row x))) (k:=nth o0c5p v55l1.toNat) (a0:=(⟨0,0,0,false,false,([]:List Int)⟩:Account)) underlying111 hi77 hz77 (show DLe (.agg [cI 0,cI 0,cI 0,cB false,cB false,nilD]) (.agg (Account.row (⟨0,0,0,false,false,([]:List Int)⟩:Account))) from .agg ⟨.rfl' _,.rfl' _,.rfl' _,.rfl' _,.rfl' _,.nil 1,trivial⟩) rfl rfl rfl (fun _ _ _ h=>exKey h)),s65.ix rfl rfl rfl hk1⟩ ?_
   cases H
   exact .t 9 2 (ih1 (n1,(v55l1+1,o7c0l1++([(⟨((alook o1c0p (nth o0c5p v55l1.toNat)).getD (⟨0,0,0,false,false,([]:List Int)⟩:Account)).id,((alook o1c0p (nth o0c5p v55l1.toNat)).getD (⟨0,0,0,false,false,([]:List Int)⟩:Account)).since,((alook o1c0p (nth o0c5p v55l1.toNat)).getD (⟨0,0,0,false,false,([]:List Int)⟩:Account)).anchor,((alook o1c0p (nth o0c5p v55l1.toNat)).getD (⟨0,0,0,false,false,([]:List Int)⟩:Account)).prepaid,((alook o1c0p (nth o0c5p v55l1.toNat)).getD (⟨0,0,0,false,false,([]:List Int)⟩:Account)).closed,(alook o8c0j1 (nth o0c5p v55l1.toNat)).getD ([]:List Int)⟩:Account)]:List Account))) HK1 hm1) rfl rfl rfl rfl (okBoth rfl (okCons rfl (okCons okMap (okCons okMap (okCons okMap (okCons okMap (okCons okMap (okCons rfl (okCons rfl (okCons okMap rfl)))))))))) hS rfl
  ·refine .BH 3 [] rfl trivial ?_
   refine .cellLe 7 0 rfl rfl (.tsl _ _ _) ?_
   refine .cellLe 7 1 rfl rfl (.tsl _ _ _) ?_
   refine .AH 3 [] rfl trivial ?_
   refine .R func65 results65 rfl ?_
   cases H
   cases HK1
   exact ⟨[0,1,2,3,4,5],[],rfl,(okCons rfl (okCons okMap (okCons okMap (okCons okMap (okCons okMap (okCons okMap rfl)))))),(by first | rfl | (simp only [List.map_cons,List.map_nil,renMap,renArr,mergeSt]; rfl)),(by first | rfl | (simp only [List.map_cons,List.map_nil,renMap,renArr,mergeSt]; rfl)),(by first | rfl | (simp only [List.map_cons,List.map_nil,renMap,renArr,mergeSt]; rfl)),(by first | rfl | (simp only [List.map_cons,List.map_nil,renMap,renArr,mergeSt]; rfl)),(by first | rfl | (simp only [List.map_cons,List.map_nil,renMap,renArr,mergeSt]; rfl)),(by first | rfl | (simp only [List.map_cons,List.map_nil,renMap,renArr,mergeSt]; rfl)),.rfl' _⟩
 ·intro hj1 hj1x
  obtain ⟨n2,H⟩:=loop_some H
  refine .loop (ι:=Nat×(Int×List Sub×(List (Int×(List Int))))) (fun ⟨_,v18l2,o7c1l2,o8c0l2⟩=>[(0,.ref 0 0),(2,.ref 6 0),(3,.ref 7 0),(4,.mp 8),(16,.d (slOf 1 rI o0c6p)),(17,.d (cI (o0c6p.length:Int))),(18,.d (cI v18l2))]) (fun ⟨_,v18l2,o7c1l2,o8c0l2⟩=>⟨[.row 116 [.mp 1,.mp 2,.mp 3,.mp 4,.mp 5,.d (slOf 1 rI o0c5p),.d (slOf 1 rI o0c6p)],.map (mEnc (fun n=>Value.int .i64 n) (fun x=>.agg (Account.row x)) o1c0p),.map (mEnc (fun n=>Value.int .i64 n) (fun x=>.agg (Sub.row x)) o2c0p),.map (mEnc (fun n=>Value.int .i64 n) (fun x=>cB x) o3c0p),.map (mEnc (fun s=>Value.string ⟨s.toArray⟩) (fun x=>cI x) o4c0p),.map (mEnc (fun n=>Value.int .i64 n) (fun x=>cI x) o5c0p),.row 62 [.d (nilD),.d (nilD)],.row 62 [.d (nilD),.tsl 8 (o7c1l2.map Sub.row) 0],.map (encE (fun n=>Value.int .i64 n) (gEnc 1 rI 1 o8c0l2))],⟨38,8,o7c1l2.length,none⟩ :: gTails 3 1 o8c0l2⟩) (fun p=>iter (fun s=>g_customer_world_customers_l2 o0c5p o0c6p o1c0p o2c0p s.1 s.2.1 s.2.2) p.1 p.2=some r) (·.1) (n2,(0,([]:List Sub),([]:List (Int×(List Int))))) H (.cons rfl (.rfl' _) (.cons rfl (.rfl' _) (.cons rfl (.rfl' _) (.cons rfl (.rfl' _) (.cons rfl (.rfl' _) (.cons rfl (.rfl' _) (.cons rfl (.rfl' _) (.nil)))))))) rfl ?_
  rintro ⟨m1,v18l2,o7c1l2,o8c0l2⟩ HI ih1
  obtain ⟨n1,q1,hm1,H,HK1⟩:=iter_succ HI
  clear HI
  replace H:g_customer_world_customers_l2 o0c5p o0c6p o1c0p o2c0p v18l2 o7c1l2 o8c0l2=some q1:=H
  unfold g_customer_world_customers_l2 at H
  refine .AH 5 [] rfl trivial ?_
  refine .ite H rfl (fun H=>?_) (fun H=>?_)
  ·obtain ⟨hk4,H⟩:=ck_some H
   refine .AH 30 [.d (.ro (rI (nth o0c6p v18l2.toNat))),.d (.tup [.agg (Sub.row ((alook o2c0p (nth o0c6p v18l2.toNat)).getD (⟨0,0,0,([]:List UInt8),([]:List (List UInt8)),([]:List (List UInt8)),false,false⟩:Sub))),cB ((alook o2c0p (nth o0c6p v18l2.toNat)).isSome)]),.r 9] rfl ⟨OpQ.g (q_lookupOkD (intKF underlying3) (l:=o2c0p) (val:=(fun x=>.agg (Sub.row x))) (k:=nth o0c6p v18l2.toNat) (a0:=(⟨0,0,0,([]:List UInt8),([]:List (List UInt8)),([]:List (List UInt8)),false,false⟩:Sub)) underlying112 hi38 hz38 (show DLe (.agg [cI 0,cI 0,cI 0,cS ([]:List UInt8),nilD,nilD,cB false,cB false]) (.agg (Sub.row (⟨0,0,0,([]:List UInt8),([]:List (List UInt8)),([]:List (List UInt8)),false,false⟩:Sub))) from .agg ⟨.rfl' _,.rfl' _,.rfl' _,.rfl' _,.nil 1,.nil 1,.rfl' _,.rfl' _,trivial⟩) rfl rfl rfl (fun _ _ _ h=>exKey h)),s65.ix rfl rfl rfl hk4⟩ ?_
   refine .ite H rfl (fun H=>?_) (fun H=>?_)
   ·obtain ⟨hk5,H⟩:=ck_some H
    refine .AH 5 [.i (v18l2+1)] rfl (g_addI rfl rfl hk5) ?_
    cases H
    exact .tG 9 (ih1 (n1,(v18l2+1,o7c1l2,o8c0l2)) HK1 hm1) rfl rfl rfl rfl (okBoth rfl (okCons rfl (okCons okMap (okCons okMap (okCons okMap (okCons okMap (okCons okMap (okCons rfl (okCons rfl (okCons (okG (T:=[⟨38,8,o7c1l2.length,none⟩]) rfl) rfl)))))))))) hS rfl rfl
   ·refine .AH 2 [] rfl trivial ?_
    obtain ⟨hk6,H⟩:=ck_some H
    refine .orders1 10 9 [⟨[.row 116 [.mp 1,.mp 2,.mp 3,.mp 4,.mp 5,.d (slOf 1 rI o0c5p),.d (slOf 1 rI o0c6p)],.map (mEnc (fun n=>Value.int .i64 n) (fun x=>.agg (Account.row x)) o1c0p),.map (mEnc (fun n=>Value.int .i64 n) (fun x=>.agg (Sub.row x)) o2c0p),.map (mEnc (fun n=>Value.int .i64 n) (fun x=>cB x) o3c0p),.map (mEnc (fun s=>Value.string ⟨s.toArray⟩) (fun x=>cI x) o4c0p),.map (mEnc (fun n=>Value.int .i64 n) (fun x=>cI x) o5c0p),.row 62 [.d (nilD),.d (nilD)],.row 62 [.d (nilD),.tsl 8 (o7c1l2.map Sub.row) 0],.map (encE (fun n=>Value.int .i64 n) (gEnc 1 rI 1 o8c0l2)),.row 38 [.d (cI (((alook o2c0p (nth o0c6p v18l2.toNat)).getD (⟨0,0,0,([]:List UInt8),([]:List (List UInt8)),([]:List (List UInt8)),false,false⟩:Sub)).id)),.d (cI (((alook o2c0p (nth o0c6p v18l2.toNat)).getD (⟨0,0,0,([]:List UInt8),([]:List (List UInt8)),([]:List (List UInt8)),false,false⟩:Sub)).account)),.d (cI (((alook o2c0p (nth o0c6p v18l2.toNat)).getD (⟨0,0,0,([]:List UInt8),([]:List (List UInt8)),([]:List (List UInt8)),false,false⟩:Sub)).since)),.d (cS (((alook o2c0p (nth o0c6p v18l2.toNat)).getD (⟨0,0,0,([]:List UInt8),([]:List (List UInt8)),([]:List (List UInt8)),false,false⟩:Sub)).plan)),.d (slOf 1 rS (((alook o2c0p (nth o0c6p v18l2.toNat)).getD (⟨0,0,0,([]:List UInt8),([]:List (List UInt8)),([]:List (List UInt8)),false,false⟩:Sub)).numbers)),.d (slOf 1 rS (((alook o2c0p (nth o0c6p v18l2.toNat)).getD (⟨0,0,0,([]:List UInt8),([]:List (List UInt8)),([]:List (List UInt8)),false,false⟩:Sub)).products)),.d (cB (((alook o2c0p (nth o0c6p v18l2.toNat)).getD (⟨0,0,0,([]:List UInt8),([]:List (List UInt8)),([]:List (List UInt8)),false,false⟩:Sub)).suspended)),.d (cB (((alook o2c0p (nth o0c6p v18l2.toNat)).getD (⟨0,0,0,([]:List UInt8),([]:List (List UInt8)),([]:List (List UInt8)),false,false⟩:Sub)).family))]],⟨38,8,o7c1l2.length,none⟩ :: gTails 3 1 o8c0l2⟩,⟨[.row 116 [.mp 1,.mp 2,.mp 3,.mp 4,.mp 5,.d (slOf 1 rI o0c5p),.d (slOf 1 rI o0c6p)],.map (mEnc (fun n=>Value.int .i64 n) (fun x=>.agg (Account.row x)) o1c0p),.map (mEnc (fun n=>Value.int .i64 n) (fun x=>.agg (Sub.row x)) o2c0p),.map (mEnc (fun n=>Value.int .i64 n) (fun x=>cB x) o3c0p),.map (mEnc (fun s=>Value.string ⟨s.toArray⟩) (fun x=>cI x) o4c0p),.map (mEnc (fun n=>Value.int .i64 n) (fun x=>cI x) o5c0p),.row 62 [.d (nilD),.d (nilD)],.row 62 [.d (nilD),.tsl 8 (o7c1l2.map Sub.row) 0],.map (encE (fun n=>Value.int .i64 n) (gEnc 1 rI 1 o8c0l2)),.row 38 [.d (cI (((alook o2c0p (nth o0c6p v18l2.toNat)).getD (⟨0,0,0,([]:List UInt8),([]:List (List UInt8)),([]:List (List UInt8)),false,false⟩:Sub)).id)),.d (cI (((alook o2c0p (nth o0c6p v18l2.toNat)).getD (⟨0,0,0,([]:List UInt8),([]:List (List UInt8)),([]:List (List UInt8)),false,false⟩:Sub)).account)),.d (cI (((alook o2c0p (nth o0c6p v18l2.toNat)).getD (⟨0,0,0,([]:List UInt8),([]:List (List UInt8)),([]:List (List UInt8)),false,false⟩:Sub)).since)),.d (cS (((alook o2c0p (nth o0c6p v18l2.toNat)).getD (⟨0,0,0,([]:List UInt8),([]:List (List UInt8)),([]:List (List UInt8)),false,false⟩:Sub)).plan)),.d (slOf 1 rS (((alook o2c0p (nth o0c6p v18l2.toNat)).getD (⟨0,0,0,([]:List UInt8),([]:List (List UInt8)),([]:List (List UInt8)),false,false⟩:Sub)).numbers)),.d (slOf 1 rS (((alook o2c0p (nth o0c6p v18l2.toNat)).getD (⟨0,0,0,([]:List UInt8),([]:List (List UInt8)),([]:List (List UInt8)),false,false⟩:Sub)).products)),.d (cB (((alook o2c0p (nth o0c6p v18l2.toNat)).getD (⟨0,0,0,([]:List UInt8),([]:List (List UInt8)),([]:List (List UInt8)),false,false⟩:Sub)).suspended)),.d (cB (((alook o2c0p (nth o0c6p v18l2.toNat)).getD (⟨0,0,0,([]:List UInt8),([]:List (List UInt8)),([]:List (List UInt8)),false,false⟩:Sub)).family))]],⟨38,8,o7c1l2.length,none⟩ :: gTails 3 1 (aset o8c0l2 (((alook o2c0p (nth o0c6p v18l2.toNat)).getD (⟨0,0,0,([]:List UInt8),([]:List (List UInt8)),([]:List (List UInt8)),false,false⟩:Sub)).account) (((alook o8c0l2 (((alook o2c0p (nth o0c6p v18l2.toNat)).getD (⟨0,0,0,([]:List UInt8),([]:List (List UInt8)),([]:List (List UInt8)),false,false⟩:Sub)).account)).getD ([]:List Int))++([nth o0c6p v18l2.toNat]:List Int)))⟩] hMix (by kernel_rfl) (by decide) rfl ?_
    show XOps _ _ _ _ _ _ _ _ _ _ (_ :: _) _ _
    refine .g (x:=.mp 8) 0 1 ⟨OpQ.g (q_move rfl),OpQ.g (q_move rfl),trivial⟩ rfl (by kernel_rfl) rfl ?_
    refine .g (x:=.ref 9 1) 0 1 ⟨OpQ.g (q_fieldRef fo_38_1 rfl),OpQ.g (q_fieldRef fo_38_1 rfl),trivial⟩ rfl (by kernel_rfl) rfl ?_
    refine .g (x:=.d (cI (((alook o2c0p (nth o0c6p v18l2.toNat)).getD (⟨0,0,0,([]:List UInt8),([]:List (List UInt8)),([]:List (List UInt8)),false,false⟩:Sub)).account))) 0 1 ⟨OpQ.g (q_loadO one_3 rfl rfl rfl),OpQ.g (q_loadO one_3 rfl rfl rfl),trivial⟩ rfl (by kernel_rfl) rfl ?_
    refine .g (x:=.mp 8) 0 0 ⟨OpQ.g (q_move rfl),trivial⟩ rfl (by kernel_rfl) rfl ?_
    refine .g (x:=.ref 9 1) 0 0 ⟨OpQ.g (q_fieldRef fo_38_1 rfl),trivial⟩ rfl (by kernel_rfl) rfl ?_
    refine .g (x:=.d (cI (((alook o2c0p (nth o0c6p v18l2.toNat)).getD (⟨0,0,0,([]:List UInt8),([]:List (List UInt8)),([]:List (List UInt8)),false,false⟩:Sub)).account))) 0 0 ⟨OpQ.g (q_loadO one_3 rfl rfl rfl),trivial⟩ rfl (by kernel_rfl) rfl ?_
    refine .g (x:=(gev 1 rI 1 o8c0l2 (((alook o2c0p (nth o0c6p v18l2.toNat)).getD (⟨0,0,0,([]:List UInt8),([]:List (List UInt8)),([]:List (List UInt8)),false,false⟩:Sub)).account))) 0 0 ⟨OpQ.g (q_lookupG (intKF underlying3) (l:=o8c0l2) (k:=((alook o2c0p (nth o0c6p v18l2.toNat)).getD (⟨0,0,0,([]:List UInt8),([]:List (List UInt8)),([]:List (List UInt8)),false,false⟩:Sub)).account) (row:=rI) (sz:=1) (t0:=1) underlying119 hi65 hz65 rfl rfl rfl rfl (fun _ _ _ h=>exKey h)),trivial⟩ rfl (by kernel_rfl) rfl ?_
    refine .g (x:=.d (cI (nth o0c6p v18l2.toNat))) 0 0 ⟨OpQ.g (q_move rfl),trivial⟩ rfl (by kernel_rfl) rfl ?_
    refine .g (x:=.d (slOf 1 rI ([nth o0c6p v18l2.toNat]:List Int))) 0 0 ⟨(g_buildSlice1 underlying65 hi3 hs3 hz3 rfl rfl rfl rfl rfl),trivial⟩ rfl (by kernel_rfl) rfl ?_
    refine .v (x:=.tsl 1 ((((alook o8c0l2 (((alook o2c0p (nth o0c6p v18l2.toNat)).getD (⟨0,0,0,([]:List UInt8),([]:List (List UInt8)),([]:List (List UInt8)),false,false⟩:Sub)).account)).getD ([]:List Int))++([nth o0c6p v18l2.toNat]:List Int)).map rI) (1+(afind o8c0l2 (((alook o2c0p (nth o0c6p v18l2.toNat)).getD (⟨0,0,0,([]:List UInt8),([]:List (List UInt8)),([]:List (List UInt8)),false,false⟩:Sub)).account)).getD (o8c0l2).length)) 0 (v_appendG (l:=o8c0l2) (k:=((alook o2c0p (nth o0c6p v18l2.toNat)).getD (⟨0,0,0,([]:List UInt8),([]:List (List UInt8)),([]:List (List UInt8)),false,false⟩:Sub)).account) (l':=([nth o0c6p v18l2.toNat]:List Int)) (T:=[⟨38,8,o7c1l2.length,none⟩]) (row:=rI) (t0:=1) underlying65 hi3 hz3 hs3 rfl (by rw [hb3]; decide) rfl rfl rfl rfl rfl hk6) rfl rfl rfl rfl ?_
    refine .nil rfl ?_
    show AOps _ _ _ _ _ _ (_ :: _) _ _ _
    refine .u (u_mapUpdateG (intKF underlying3) (l:=o8c0l2) (k:=((alook o2c0p (nth o0c6p v18l2.toNat)).getD (⟨0,0,0,([]:List UInt8),([]:List (List UInt8)),([]:List (List UInt8)),false,false⟩:Sub)).account) (v:=((alook o8c0l2 (((alook o2c0p (nth o0c6p v18l2.toNat)).getD (⟨0,0,0,([]:List UInt8),([]:List (List UInt8)),([]:List (List UInt8)),false,false⟩:Sub)).account)).getD ([]:List Int))++([nth o0c6p v18l2.toNat]:List Int)) (row:=rI) (sz:=1) (t0:=1) underlying119 rfl rfl rfl (fun _ _ _ h=>exKey h) rfl) rfl ?_
    obtain ⟨hk7,H⟩:=ck_some H
    obtain ⟨hk8,H⟩:=ck_some H
    refine .AH 15 [.d (slOf 8 Sub.row ([(alook o2c0p (nth o0c6p v18l2.toNat)).getD (⟨0,0,0,([]:List UInt8),([]:List (List UInt8)),([]:List (List UInt8)),false,false⟩:Sub)]:List Sub)),.v (.tsl 8 ((o7c1l2++([(alook o2c0p (nth o0c6p v18l2.toNat)).getD (⟨0,0,0,([]:List UInt8),([]:List (List UInt8)),([]:List (List UInt8)),false,false⟩:Sub)]:List Sub)).map Sub.row) 0) ⟨[.row 116 [.mp 1,.mp 2,.mp 3,.mp 4,.mp 5,.d (slOf 1 rI o0c5p),.d (slOf 1 rI o0c6p)],.map (mEnc (fun n=>Value.int .i64 n) (fun x=>.agg (Account.row x)) o1c0p),.map (mEnc (fun n=>Value.int .i64 n) (fun x=>.agg (Sub.row x)) o2c0p),.map (mEnc (fun n=>Value.int .i64 n) (fun x=>cB x) o3c0p),.map (mEnc (fun s=>Value.string ⟨s.toArray⟩) (fun x=>cI x) o4c0p),.map (mEnc (fun n=>Value.int .i64 n) (fun x=>cI x) o5c0p),.row 62 [.d (nilD),.d (nilD)],.row 62 [.d (nilD),.tsl 8 (o7c1l2.map Sub.row) 0],.map (encE (fun n=>Value.int .i64 n) (gEnc 1 rI 1 (aset o8c0l2 (((alook o2c0p (nth o0c6p v18l2.toNat)).getD (⟨0,0,0,([]:List UInt8),([]:List (List UInt8)),([]:List (List UInt8)),false,false⟩:Sub)).account) (((alook o8c0l2 (((alook o2c0p (nth o0c6p v18l2.toNat)).getD (⟨0,0,0,([]:List UInt8),([]:List (List UInt8)),([]:List (List UInt8)),false,false⟩:Sub)).account)).getD ([]:List Int))++([nth o0c6p v18l2.toNat]:List Int))))),.row 38 [.d (cI (((alook o2c0p (nth o0c6p v18l2.toNat)).getD (⟨0,0,0,([]:List UInt8),([]:List (List UInt8)),([]:List (List UInt8)),false,false⟩:Sub)).id)),.d (cI (((alook o2c0p (nth o0c6p v18l2.toNat)).getD (⟨0,0,0,([]:List UInt8),([]:List (List UInt8)),([]:List (List UInt8)),false,false⟩:Sub)).account)),.d (cI (((alook o2c0p (nth o0c6p v18l2.toNat)).getD (⟨0,0,0,([]:List UInt8),([]:List (List UInt8)),([]:List (List UInt8)),false,false⟩:Sub)).since)),.d (cS (((alook o2c0p (nth o0c6p v18l2.toNat)).getD (⟨0,0,0,([]:List UInt8),([]:List (List UInt8)),([]:List (List UInt8)),false,false⟩:Sub)).plan)),.d (slOf 1 rS (((alook o2c0p (nth o0c6p v18l2.toNat)).getD (⟨0,0,0,([]:List UInt8),([]:List (List UInt8)),([]:List (List UInt8)),false,false⟩:Sub)).numbers)),.d (slOf 1 rS (((alook o2c0p (nth o0c6p v18l2.toNat)).getD (⟨0,0,0,([]:List UInt8),([]:List (List UInt8)),([]:List (List UInt8)),false,false⟩:Sub)).products)),.d (cB (((alook o2c0p (nth o0c6p v18l2.toNat)).getD (⟨0,0,0,([]:List UInt8),([]:List (List UInt8)),([]:List (List UInt8)),false,false⟩:Sub)).suspended)),.d (cB (((alook o2c0p (nth o0c6p v18l2.toNat)).getD (⟨0,0,0,([]:List UInt8),([]:List (List UInt8)),([]:List (List UInt8)),false,false⟩:Sub)).family))]],⟨38,8,(o7c1l2++([(alook o2c0p (nth o0c6p v18l2.toNat)).getD (⟨0,0,0,([]:List UInt8),([]:List (List UInt8)),([]:List (List UInt8)),false,false⟩:Sub)]:List Sub)).length,none⟩ :: gTails 3 1 (aset o8c0l2 (((alook o2c0p (nth o0c6p v18l2.toNat)).getD (⟨0,0,0,([]:List UInt8),([]:List (List UInt8)),([]:List (List UInt8)),false,false⟩:Sub)).account) (((alook o8c0l2 (((alook o2c0p (nth o0c6p v18l2.toNat)).getD (⟨0,0,0,([]:List UInt8),([]:List (List UInt8)),([]:List (List UInt8)),false,false⟩:Sub)).account)).getD ([]:List Int))++([nth o0c6p v18l2.toNat]:List Int)))⟩,.i (v18l2+1)] rfl ⟨g_addI rfl rfl hk8,.e (v_appendL (l:=o7c1l2) (l':=([(alook o2c0p (nth o0c6p v18l2.toNat)).getD (⟨0,0,0,([]:List UInt8),([]:List (List UInt8)),([]:List (List UInt8)),false,false⟩:Sub)]:List Sub)) (row:=Sub.row) underlying60 hi38 hz38 hs38 rfl (by rw [hb38]; decide) rfl rfl rfl rfl hk7) rfl,g_buildSlice1 underlying60 hi38 hs38 hz38 rfl rfl rfl rfl rfl⟩ ?_
    cases H
    exact .tG 9 (ih1 (n1,(v18l2+1,o7c1l2++([(alook o2c0p (nth o0c6p v18l2.toNat)).getD (⟨0,0,0,([]:List UInt8),([]:List (List UInt8)),([]:List (List UInt8)),false,false⟩:Sub)]:List Sub),aset o8c0l2 (((alook o2c0p (nth o0c6p v18l2.toNat)).getD (⟨0,0,0,([]:List UInt8),([]:List (List UInt8)),([]:List (List UInt8)),false,false⟩:Sub)).account) (((alook o8c0l2 (((alook o2c0p (nth o0c6p v18l2.toNat)).getD (⟨0,0,0,([]:List UInt8),([]:List (List UInt8)),([]:List (List UInt8)),false,false⟩:Sub)).account)).getD ([]:List Int))++([nth o0c6p v18l2.toNat]:List Int)))) HK1 hm1) rfl rfl rfl rfl (okBoth rfl (okCons rfl (okCons okMap (okCons okMap (okCons okMap (okCons okMap (okCons okMap (okCons rfl (okCons rfl (okCons (okG (T:=[⟨38,8,o7c1l2.length,none⟩]) rfl) rfl)))))))))) hS rfl rfl
  ·refine .AH 1 [] rfl trivial ?_
   obtain ⟨q0,H9,hq0⟩:=map_some' H; clear H; cases hq0
   cases HK1
   have H:=H9
   exact .z (hj1x (o7c1l2,o8c0l2) H) rfl rfl
theorem c_f_customer_State {v0events:List Event} {v1t:Int} {r:Customers} (H:f_customer_State v0events v1t=some r):ACall prog 46 [slOf 7 Event.row v0events,cI v1t] (·=.agg (Customers.row r)):=by
 refine ACall.enter' func46 rfl ntmps46 rfl fun S hS=>?_
 unfold f_customer_State at H
 obtain ⟨y1,hy1,H⟩:=bind_some' H
 refine .B 6 [.r 0] rfl trivial ?_
 refine .callF (en 27 rfl) rfl [] [] (x:=.ref 1 0) (st':=⟨[.row 62 [.d (nilD),.d (nilD)],.row 116 [.mp 2,.mp 3,.mp 4,.mp 5,.mp 6,.d (nilD),.d (nilD)],.map (mEnc (fun n=>Value.int .i64 n) (fun x=>.agg (Account.row x)) y1.1),.map (mEnc (fun n=>Value.int .i64 n) (fun x=>.agg (Sub.row x)) y1.2.1),.map (mEnc (fun n=>Value.int .i64 n) (fun x=>cB x) y1.2.2.1),.map (mEnc (fun s=>Value.string ⟨s.toArray⟩) (fun x=>cI x) y1.2.2.2.1),.map (mEnc (fun n=>Value.int .i64 n) (fun x=>cI x) y1.2.2.2.2)],[]⟩) rfl (c_g_customer_begin (hy1)) trivial rfl rfl (by first | rfl | (simp only [List.map_cons,List.map_nil,renMap,renArr,mergeSt]; rfl)) rfl rfl (by first | rfl | (simp only [List.map_cons,List.map_nil,renMap,renArr,mergeSt]; rfl)) ?_
 obtain ⟨y2,hy2,H⟩:=bind_some' H
 refine .B 8 [.r 7] rfl trivial ?_
 refine .callF (en 28 rfl) rfl [] [] (x:=.clo 70 [.ref 8 0,.ref 9 0]) (st':=⟨[.row 62 [.d (nilD),.d (nilD)],.row 116 [.mp 2,.mp 3,.mp 4,.mp 5,.mp 6,.d (nilD),.d (nilD)],.map (mEnc (fun n=>Value.int .i64 n) (fun x=>.agg (Account.row x)) y1.1),.map (mEnc (fun n=>Value.int .i64 n) (fun x=>.agg (Sub.row x)) y1.2.1),.map (mEnc (fun n=>Value.int .i64 n) (fun x=>cB x) y1.2.2.1),.map (mEnc (fun s=>Value.string ⟨s.toArray⟩) (fun x=>cI x) y1.2.2.2.1),.map (mEnc (fun n=>Value.int .i64 n) (fun x=>cI x) y1.2.2.2.2),.row 102 [.ref 1 0],.row 22 [.d (slOf 7 Event.row y2.1)],.row 3 [.d (cI y2.2)]],[]⟩) rfl (c_g_customer_upto (hy2)) ⟨.rfl' _,.rfl' _,trivial⟩ rfl rfl (by first | rfl | (simp only [List.map_cons,List.map_nil,renMap,renArr,mergeSt]; rfl)) rfl rfl (by first | rfl | (simp only [List.map_cons,List.map_nil,renMap,renArr,mergeSt]; rfl)) ?_
 refine .A 2 [] rfl trivial ?_
 refine .cellLe 1 5 rfl rfl (.nil 1) ?_
 refine .cellLe 1 6 rfl rfl (.nil 1) ?_
 obtain ⟨y3,hy3,H⟩:=bind_some' H
 refine .rangeFunc (st':=⟨[.row 62 [.d (nilD),.d (nilD)],.row 116 [.mp 2,.mp 3,.mp 4,.mp 5,.mp 6,.d (slOf 1 rI y3.1),.d (slOf 1 rI y3.2.1)],.map (mEnc (fun n=>Value.int .i64 n) (fun x=>.agg (Account.row x)) y3.2.2.1),.map (mEnc (fun n=>Value.int .i64 n) (fun x=>.agg (Sub.row x)) y3.2.2.2.1),.map (mEnc (fun n=>Value.int .i64 n) (fun x=>cB x) y3.2.2.2.2.1),.map (mEnc (fun s=>Value.string ⟨s.toArray⟩) (fun x=>cI x) y3.2.2.2.2.2.1),.map (mEnc (fun n=>Value.int .i64 n) (fun x=>cI x) y3.2.2.2.2.2.2),.row 102 [.ref 1 0],.row 22 [.d (slOf 7 Event.row y2.1)],.row 3 [.d (cI y2.2)]],[]⟩) rfl (en 29 rfl) rfl ?_ ?_
 ·intro S1 tm D l hb1 hi1 hN1 he1 hl1 hS1 vs ha1
  refine c_f_customer_upto_1 hy3 rfl hS1 hi1 hl1 ha1 ?_
  intro S2 o1c5p o1c6p o2c0p o3c0p o4c0p o5c0p o6c0p y e H hsevo hb2 hS hi2 v hv
  have he2:EnvRep S2.g S2.w S2.st [(11,.d (.agg (Event.row e))),(5,.ref 7 0)] (tm.setIfInBounds 11 v):=EnvRep.put (env:=[(5,.ref 7 0)]) ((he1.sub (.cons rfl (.rfl' _) (.nil))).mono hsevo) (by rw [hN1]; decide) (.d _ _ hv)
  have hl:S2.g.ob 11=l:=(hsevo.ob 11 (by rw [hS1]; exact Nat.le_of_ble_eq_true rfl)).trans hl1
  have hh2:=Hist.refl S2
  rw [hS] at he2 hi2 hh2
  unfold f_customer_State_r at H
  refine (?_:ARun prog ⟨46,[],some l⟩ 17 S2 _ [.code _,.beginRound,.code _] [(11,.d (.agg (Event.row e))),(5,.ref 7 0)] _) S2.g S2.w _ hi2 hh2 he2 (by simp [hN1])
  refine .A 4 [.r 13] rfl trivial ?_
  refine .beginRound hl (by rw [hS]; exact Nat.le_of_ble_eq_true rfl) rfl rfl ?_
  obtain ⟨y1,hy1,H⟩:=bind_some' H
  refine .B 4 [] rfl trivial ?_
  refine .callF (en 30 rfl) rfl [1,2,3,4,5,6] [] (x:=.d (.tup [])) (st':=⟨[.row 62 [.d (nilD),.d (nilD)],.row 116 [.mp 2,.mp 3,.mp 4,.mp 5,.mp 6,.d (slOf 1 rI y1.1),.d (slOf 1 rI y1.2.1)],.map (mEnc (fun n=>Value.int .i64 n) (fun x=>.agg (Account.row x)) y1.2.2.1),.map (mEnc (fun n=>Value.int .i64 n) (fun x=>.agg (Sub.row x)) y1.2.2.2.1),.map (mEnc (fun n=>Value.int .i64 n) (fun x=>cB x) y1.2.2.2.2.1),.map (mEnc (fun s=>Value.string ⟨s.toArray⟩) (fun x=>cI x) y1.2.2.2.2.2.1),.map (mEnc (fun n=>Value.int .i64 n) (fun x=>cI x) y1.2.2.2.2.2.2),.row 102 [.ref 1 0],.row 22 [.d (slOf 7 Event.row y2.1)],.row 3 [.d (cI y2.2)],.raw (.deferred (some [])),.raw (.loop { state:=.busy,pending:=none,fn:=46,tmps:=tm,params:=#[11],assign:=_,body:=_,defers:=D }),.row 43 [.d (cI e.at_),.d (cI e.kind),.d (cI e.account),.d (cI e.sub),.d (cS e.number),.d (cS e.name),.d (cI e.value)],.row 43 [.d (cI e.at_),.d (cI e.kind),.d (cI e.account),.d (cI e.sub),.d (cS e.number),.d (cS e.name),.d (cI e.value)]],[]⟩) rfl (c_g_customer_world_apply (hy1)) ⟨.rfl' _,.rfl' _,trivial⟩ rfl (okCons rfl (okCons okMap (okCons okMap (okCons okMap (okCons okMap (okCons okMap rfl)))))) (by first | rfl | (simp only [List.map_cons,List.map_nil,renMap,renArr,mergeSt]; rfl)) rfl rfl (by first | rfl | (simp only [List.map_cons,List.map_nil,renMap,renArr,mergeSt]; rfl)) ?_
  refine .A 2 [] rfl trivial ?_
  cases H
  exact .t 13 0 (env':=[]) (st':=⟨[.row 62 [.d (nilD),.d (nilD)],.row 116 [.mp 2,.mp 3,.mp 4,.mp 5,.mp 6,.d (slOf 1 rI y1.1),.d (slOf 1 rI y1.2.1)],.map (mEnc (fun n=>Value.int .i64 n) (fun x=>.agg (Account.row x)) y1.2.2.1),.map (mEnc (fun n=>Value.int .i64 n) (fun x=>.agg (Sub.row x)) y1.2.2.2.1),.map (mEnc (fun n=>Value.int .i64 n) (fun x=>cB x) y1.2.2.2.2.1),.map (mEnc (fun s=>Value.string ⟨s.toArray⟩) (fun x=>cI x) y1.2.2.2.2.2.1),.map (mEnc (fun n=>Value.int .i64 n) (fun x=>cI x) y1.2.2.2.2.2.2),.row 102 [.ref 1 0],.row 22 [.d (slOf 7 Event.row y2.1)],.row 3 [.d (cI y2.2)],.raw (.deferred (some [])),.raw (.loop { state:=.busy,pending:=none,fn:=46,tmps:=tm,params:=#[11],assign:=_,body:=_,defers:=D }),.row 43 [.d (cI e.at_),.d (cI e.kind),.d (cI e.account),.d (cI e.sub),.d (cS e.number),.d (cS e.name),.d (cI e.value)]],[]⟩) (.roundEnd ⟨_,rfl,rfl⟩) rfl rfl rfl rfl (okBoth rfl (okCons rfl (okCons rfl (okCons okMap (okCons okMap (okCons okMap (okCons okMap (okCons okMap (okCons rfl (okCons rfl (okCons rfl (okCons rfl (okCons rfl (okCons rfl rfl)))))))))))))) hS rfl
 ·intro S1 D x hb1 hD hS
  obtain ⟨y4,hy4,H⟩:=bind_some' H
  refine .B 4 [] rfl trivial ?_
  refine .callF (en 31 rfl) rfl [1,2,3,4,5,6] [] (x:=.d (.agg (Customers.row y4))) (st':=⟨[.row 62 [.d (nilD),.d (nilD)],.row 116 [.mp 2,.mp 3,.mp 4,.mp 5,.mp 6,.d (slOf 1 rI y3.1),.d (slOf 1 rI y3.2.1)],.map (mEnc (fun n=>Value.int .i64 n) (fun x=>.agg (Account.row x)) y3.2.2.1),.map (mEnc (fun n=>Value.int .i64 n) (fun x=>.agg (Sub.row x)) y3.2.2.2.1),.map (mEnc (fun n=>Value.int .i64 n) (fun x=>cB x) y3.2.2.2.2.1),.map (mEnc (fun s=>Value.string ⟨s.toArray⟩) (fun x=>cI x) y3.2.2.2.2.2.1),.map (mEnc (fun n=>Value.int .i64 n) (fun x=>cI x) y3.2.2.2.2.2.2),.row 102 [.ref 1 0],.row 22 [.d (slOf 7 Event.row y2.1)],.row 3 [.d (cI y2.2)],.raw (.deferred (some [])),.raw x],[]⟩) rfl (c_g_customer_world_customers (hy4)) ⟨.rfl' _,trivial⟩ rfl (okCons rfl (okCons okMap (okCons okMap (okCons okMap (okCons okMap (okCons okMap rfl)))))) (by first | rfl | (simp only [List.map_cons,List.map_nil,renMap,renArr,mergeSt]; rfl)) rfl rfl (by first | rfl | (simp only [List.map_cons,List.map_nil,renMap,renArr,mergeSt]; rfl)) ?_
  refine .A 2 [] rfl trivial ?_
  refine .retM (o:=10) [.cell 4 62] [.d (.agg (Customers.row y4))] func46 results46 hD (by rw [hS]; exact Nat.le_of_ble_eq_true rfl) rfl (resV_sound ftok rfl) ?_
  cases H
  exact .m rfl (.rfl' _)
theorem c_g_numbering_owners {v0events:List Event} {v1t:Int} {r:(List ((List UInt8)×Int))} (H:g_numbering_owners v0events v1t=some r):ACallS prog 45 [.d (slOf 7 Event.row v0events),.d (cI v1t)] ⟨[],[]⟩ (QE (.mp 0) ⟨[.map (mEnc (fun s=>Value.string ⟨s.toArray⟩) (fun x=>cI x) r)],[]⟩):=by
 refine ACallS.keep ?_
 refine ACallS.enter func45 rfl ntmps45 rfl fun S hS=>?_
 unfold g_numbering_owners at H
 obtain ⟨y1,hy1,H⟩:=bind_some' H
 refine .A 20 [.v (.mp 0) ⟨[.map (mEnc (fun s=>Value.string ⟨s.toArray⟩) (fun x=>cI x) ([]:List ((List UInt8)×Int)))],[]⟩,.d (.agg (Customers.row y1)),.d (slOf 8 Sub.row y1.subs),.i (y1.subs.length:Int)] rfl ⟨s60.n rfl rfl,OpQ.g (q_field underlying62 rfl one_60 rfl rfl rfl),g_call (en 32 rfl) rfl rfl (c_f_customer_State (hy1)),.e (v_makeMap) rfl⟩ ?_
 obtain ⟨n1,H⟩:=loop_some H
 refine .loop (ι:=Nat×(Int×(List ((List UInt8)×Int)))) (fun ⟨_,v16l1,o0c0l1⟩=>[(5,.mp 0),(14,.d (slOf 8 Sub.row y1.subs)),(15,.d (cI (y1.subs.length:Int))),(16,.d (cI v16l1))]) (fun ⟨_,v16l1,o0c0l1⟩=>⟨[.map (mEnc (fun s=>Value.string ⟨s.toArray⟩) (fun x=>cI x) o0c0l1)],[]⟩) (fun p=>iter (fun s=>g_numbering_owners_l1 y1 s.1 s.2) p.1 p.2=some r) (·.1) (n1,(0,([]:List ((List UInt8)×Int)))) H (.cons rfl (.rfl' _) (.cons rfl (.rfl' _) (.cons rfl (.rfl' _) (.cons rfl (.rfl' _) (.nil))))) rfl ?_
 rintro ⟨m1,v16l1,o0c0l1⟩ HI ih1
 obtain ⟨n1,q1,hm1,H,HK1⟩:=iter_succ HI
 clear HI
 replace H:g_numbering_owners_l1 y1 v16l1 o0c0l1=some q1:=H
 unfold g_numbering_owners_l1 at H
 refine .A 5 [] rfl trivial ?_
 refine .ite H rfl (fun H=>?_) (fun H=>?_)
 ·obtain ⟨hk1,H⟩:=ck_some H
  refine .A 18 [.d (.ro (Sub.row (nth y1.subs v16l1.toNat))),.r 1,.i (((nth y1.subs v16l1.toNat).numbers).length:Int)] rfl ⟨s36.n rfl rfl,s60.ix rfl rfl rfl hk1⟩ ?_
  obtain ⟨n2,H⟩:=loop_some H
  refine .loop (ι:=Nat×(Int×(List ((List UInt8)×Int)))) (fun ⟨_,v23l2,o0c0l2⟩=>[(5,.mp 0),(7,.ref 1 0),(14,.d (slOf 8 Sub.row y1.subs)),(15,.d (cI (y1.subs.length:Int))),(16,.d (cI v16l1)),(21,.d (slOf 1 rS ((nth y1.subs v16l1.toNat).numbers))),(22,.d (cI (((nth y1.subs v16l1.toNat).numbers).length:Int))),(23,.d (cI v23l2))]) (fun ⟨_,v23l2,o0c0l2⟩=>⟨[.map (mEnc (fun s=>Value.string ⟨s.toArray⟩) (fun x=>cI x) o0c0l2),.row 38 [.d (cI ((nth y1.subs v16l1.toNat).id)),.d (cI ((nth y1.subs v16l1.toNat).account)),.d (cI ((nth y1.subs v16l1.toNat).since)),.d (cS ((nth y1.subs v16l1.toNat).plan)),.d (slOf 1 rS ((nth y1.subs v16l1.toNat).numbers)),.d (slOf 1 rS ((nth y1.subs v16l1.toNat).products)),.d (cB ((nth y1.subs v16l1.toNat).suspended)),.d (cB ((nth y1.subs v16l1.toNat).family))]],[]⟩) (fun p=>iter (fun s=>g_numbering_owners_l2 y1 v16l1 s.1 s.2) p.1 p.2=some q1) (·.1) (n2,(0,o0c0l1)) H (.cons rfl (.rfl' _) (.cons rfl (.rfl' _) (.cons rfl (.rfl' _) (.cons rfl (.rfl' _) (.cons rfl (.rfl' _) (.cons rfl (.rfl' _) (.cons rfl (.rfl' _) (.cons rfl (.rfl' _) (.nil))))))))) rfl ?_
  rintro ⟨m2,v23l2,o0c0l2⟩ HI ih2
  obtain ⟨n2,q2,hm2,H,HK2⟩:=iter_succ HI
  clear HI
  replace H:g_numbering_owners_l2 y1 v16l1 v23l2 o0c0l2=some q2:=H
  unfold g_numbering_owners_l2 at H
  refine .A 5 [] rfl trivial ?_
  refine .ite H rfl (fun H=>?_) (fun H=>?_)
  ·obtain ⟨hk2,H⟩:=ck_some H
   obtain ⟨hk3,H⟩:=ck_some H
   refine .A 21 [.d (.ro (rS (nth ((nth y1.subs v16l1.toNat).numbers) v23l2.toNat))),.u ⟨[.map (mEnc (fun s=>Value.string ⟨s.toArray⟩) (fun x=>cI x) (aset o0c0l2 (nth ((nth y1.subs v16l1.toNat).numbers) v23l2.toNat) ((nth y1.subs v16l1.toNat).id))),.row 38 [.d (cI ((nth y1.subs v16l1.toNat).id)),.d (cI ((nth y1.subs v16l1.toNat).account)),.d (cI ((nth y1.subs v16l1.toNat).since)),.d (cS ((nth y1.subs v16l1.toNat).plan)),.d (slOf 1 rS ((nth y1.subs v16l1.toNat).numbers)),.d (slOf 1 rS ((nth y1.subs v16l1.toNat).products)),.d (cB ((nth y1.subs v16l1.toNat).suspended)),.d (cB ((nth y1.subs v16l1.toNat).family))]],[]⟩,.i (v23l2+1)] rfl ⟨g_addI rfl rfl hk3,.e (u_mapUpdateD (strKF underlying9) (l:=o0c0l2) (val:=(fun x=>cI x)) (k:=nth ((nth y1.subs v16l1.toNat).numbers) v23l2.toNat) (a:=(nth y1.subs v16l1.toNat).id) underlying85 rfl rfl rfl (fun _ _ _ h=>exKey h) rfl (.rfl' _)) rfl,s36.ix rfl rfl rfl hk2⟩ ?_
   cases H
   exact .z (ih2 (n2,(v23l2+1,aset o0c0l2 (nth ((nth y1.subs v16l1.toNat).numbers) v23l2.toNat) ((nth y1.subs v16l1.toNat).id))) HK2 hm2) rfl rfl
  ·obtain ⟨hk4,H⟩:=ck_some H
   refine .A 6 [.i (v16l1+1)] rfl (g_addI rfl rfl hk4) ?_
   cases H
   cases HK2
   exact .t 1 0 (ih1 (n1,(v16l1+1,o0c0l2)) HK1 hm1) rfl rfl rfl rfl (okBoth rfl (okCons okMap rfl)) hS rfl
 ·refine .A 6 [] rfl trivial ?_
  refine .R func45 results45 rfl ?_
  cases H
  cases HK1
  exact ⟨[0],[],rfl,(okCons okMap rfl),(by first | rfl | (simp only [List.map_cons,List.map_nil,renMap,renArr,mergeSt]; rfl)),(by first | rfl | (simp only [List.map_cons,List.map_nil,renMap,renArr,mergeSt]; rfl)),(by first | rfl | (simp only [List.map_cons,List.map_nil,renMap,renArr,mergeSt]; rfl)),(by first | rfl | (simp only [List.map_cons,List.map_nil,renMap,renArr,mergeSt]; rfl)),(by first | rfl | (simp only [List.map_cons,List.map_nil,renMap,renArr,mergeSt]; rfl)),(by first | rfl | (simp only [List.map_cons,List.map_nil,renMap,renArr,mergeSt]; rfl)),.rfl' _⟩
theorem c_f_numbering_Owner {v0events:List Event} {v1number:List UInt8} {v2t:Int} {r:Int×Bool} (H:f_numbering_Owner v0events v1number v2t=some r):ACall prog 32 [slOf 7 Event.row v0events,cS v1number,cI v2t] (·=.tup [cI r.1,cB r.2]):=by
 obtain ⟨i3,hi3,hz3,hs3,hb3⟩:=in_3
 refine ACall.enter' func32 rfl ntmps32 rfl fun S hS=>?_
 unfold f_numbering_Owner at H
 obtain ⟨y1,hy1,H⟩:=bind_some' H
 refine .B 9 [] rfl trivial ?_
 refine .callF (en 33 rfl) rfl [] [] (x:=.mp 0) (st':=⟨[.map (mEnc (fun s=>Value.string ⟨s.toArray⟩) (fun x=>cI x) y1)],[]⟩) rfl (c_g_numbering_owners (hy1)) ⟨.rfl' _,.rfl' _,trivial⟩ rfl rfl (by first | rfl | (simp only [List.map_cons,List.map_nil,renMap,renArr,mergeSt]; rfl)) rfl rfl (by first | rfl | (simp only [List.map_cons,List.map_nil,renMap,renArr,mergeSt]; rfl)) ?_
 refine .A 15 [.d (.tup [cI ((alook y1 v1number).getD 0),cB ((alook y1 v1number).isSome)])] rfl (OpQ.g (q_lookupOkD (strKF underlying9) (l:=y1) (val:=(fun x=>cI x)) (k:=v1number) (a0:=0) underlying85 hi3 hz3 (show DLe (cI 0) (cI 0) from .rfl' _) rfl rfl rfl (fun _ _ _ h=>exKey h))) ?_
 refine .R func32 results32 rfl ?_
 cases H
 exact .m rfl (.tupD rfl)
theorem c_f_customer_Sub {v0events:List Event} {v1id:Int} {v2t:Int} {r:Sub×Bool} (H:f_customer_Sub v0events v1id v2t=some r):ACall prog 34 [slOf 7 Event.row v0events,cI v1id,cI v2t] (·=.tup [.agg (Sub.row r.1),cB r.2]):=by
 obtain ⟨i38,hi38,hz38,hs38,hb38⟩:=in_38
 refine ACall.enter' func34 rfl ntmps34 rfl fun S hS=>?_
 unfold f_customer_Sub at H
 obtain ⟨y1,hy1,H⟩:=bind_some' H
 refine .A 16 [.r 0,.d (.agg (Customers.row y1)),.d (slOf 8 Sub.row y1.subs),.i (y1.subs.length:Int)] rfl ⟨s60.n rfl rfl,OpQ.g (q_field underlying62 rfl one_60 rfl rfl rfl),g_call (en 32 rfl) rfl rfl (c_f_customer_State (hy1))⟩ ?_
 obtain ⟨n1,H⟩:=loop_some H
 refine .loop (ι:=Nat×(Int)) (fun ⟨_,v15l1⟩=>[(1,.d (cI v1id)),(6,.ref 0 0),(13,.d (slOf 8 Sub.row y1.subs)),(14,.d (cI (y1.subs.length:Int))),(15,.d (cI v15l1))]) (fun ⟨_,v15l1⟩=>⟨[.row 38 [.d (cI 0),.d (cI 0),.d (cI 0),.d (cS ([]:List UInt8)),.d (nilD),.d (nilD),.d (cB false),.d (cB false)]],[]⟩) (fun p=>iter (fun s=>f_customer_Sub_l1 v1id y1 s) p.1 p.2=some r) (·.1) (n1,0) H (.cons rfl (.rfl' _) (.cons rfl (.rfl' _) (.cons rfl (.rfl' _) (.cons rfl (.rfl' _) (.cons rfl (.rfl' _) (.nil)))))) rfl ?_
 rintro ⟨m1,v15l1⟩ HI ih1
 obtain ⟨n1,q1,hm1,H,HK1⟩:=iter_succ HI
 clear HI
 replace H:f_customer_Sub_l1 v1id y1 v15l1=some q1:=H
 unfold f_customer_Sub_l1 at H
 refine .A 5 [] rfl trivial ?_
 refine .ite H rfl (fun H=>?_) (fun H=>?_)
 ·obtain ⟨hk1,H⟩:=ck_some H
  refine .A 17 [.d (.ro (Sub.row (nth y1.subs v15l1.toNat))),.r 1] rfl (s60.ix rfl rfl rfl hk1) ?_
  refine .ite H rfl (fun H=>?_) (fun H=>?_)
  ·refine .A 6 [] rfl trivial ?_
   refine .R func34 results34 rfl ?_
   cases H
   cases HK1
   exact .m rfl (.tupD rfl)
  ·obtain ⟨hk2,H⟩:=ck_some H
   refine .A 6 [.i (v15l1+1)] rfl (g_addI rfl rfl hk2) ?_
   cases H
   exact .t 1 0 (ih1 (n1,(v15l1+1)) HK1 hm1) rfl rfl rfl rfl rfl hS rfl
 ·refine .A 7 [.d (.agg (Sub.row (⟨0,0,0,([]:List UInt8),([]:List (List UInt8)),([]:List (List UInt8)),false,false⟩:Sub)))] rfl (OpQ.g (OpQ.le (q_buildP pl_38 hi38 hz38 rfl rfl) (EVle.d (.agg ⟨.rfl' _,.rfl' _,.rfl' _,.rfl' _,.nil 1,.nil 1,.rfl' _,.rfl' _,trivial⟩)))) ?_
  refine .R func34 results34 rfl ?_
  cases H
  cases HK1
  exact .m rfl (.tupD rfl)
set_option maxRecDepth 100000
set_option maxHeartbeats 1000000
theorem c_f_enrich_work_owner {v0w:EnrichWork} {r:Sub×Bool} (H:f_enrich_work_owner v0w=some r):ACall prog 21 [.agg (EnrichWork.row v0w)] (·=.tup [.agg (Sub.row r.1),cB r.2]):=by
 obtain ⟨i38,hi38,hz38,hs38,hb38⟩:=in_38
 refine ACall.enter' func21 rfl ntmps21 rfl fun S hS=>?_
 unfold f_enrich_work_owner at H
 obtain ⟨y1,hy1,H⟩:=bind_some' H
 obtain ⟨y2,hy2,H⟩:=bind_some' H
 refine .A 31 [.r 0,.r 1,.p 15,.s y1,.d (.tup [cI y2.1,cB y2.2])] rfl ⟨g_call (en 34 rfl) rfl rfl (c_f_numbering_Owner (hy2)),g_call (en 35 rfl) rfl rfl (c_f_enrich_source_number (hy1)),(show drawB _ _=true by kernel_rfl)⟩ ?_
 refine .ite H rfl (fun H=>?_) (fun H=>?_)
 ·refine .A 6 [.d (.agg (Sub.row (⟨0,0,0,([]:List UInt8),([]:List (List UInt8)),([]:List (List UInt8)),false,false⟩:Sub)))] rfl (OpQ.g (OpQ.le (q_buildP pl_38 hi38 hz38 rfl rfl) (EVle.d (.agg ⟨.rfl' _,.rfl' _,.rfl' _,.rfl' _,.nil 1,.nil 1,.rfl' _,.rfl' _,trivial⟩)))) ?_
  refine .R func21 results21 rfl ?_
  cases H
  exact .m rfl (.tupD rfl)
 ·obtain ⟨y3,hy3,H⟩:=bind_some' H
  refine .A 16 [.d (.tup [.agg (Sub.row y3.1),cB y3.2])] rfl (g_call (en 36 rfl) rfl rfl (c_f_customer_Sub (hy3))) ?_
  refine .R func21 results21 rfl ?_
  cases H
  exact .m rfl (.tupD rfl)
theorem c_f_enrich_source_usage {v0s:EnrichSource} {v1id:Int} {v2sub:Sub} {r:Usage} (H:f_enrich_source_usage v0s v1id v2sub=some r):ACall prog 22 [.agg (EnrichSource.row v0s),cI v1id,.agg (Sub.row v2sub)] (·=.agg (Usage.row r)):=by
 obtain ⟨i29,hi29,hz29,hs29,hb29⟩:=in_29
 refine ACall.enter' func22 rfl ntmps22 rfl fun S hS=>?_
 unfold f_enrich_source_usage at H
 refine .A 43 [.r 0,.r 1,.r 2,.d (.agg (Usage.row (⟨v1id,v0s.record.kind,v2sub.account,v2sub.id,v0s.record.a,v0s.record.b,v0s.record.start,v0s.record.units,v0s.record.trunk,v0s.record.inbound,v0s.record.source,v0s.record.serial⟩:Usage)))] rfl (OpQ.g (q_buildP pl_29 hi29 hz29 rfl (by kernel_rfl))) ?_
 refine .R func22 results22 rfl ?_
 cases H
 exact .m rfl (.rfl' _)
theorem c_f_enrich_Usage {v0events:List Event} {v1r:Record} {v2id:Int} {r:Usage×Int} (H:f_enrich_Usage v0events v1r v2id=some r):ACall prog 11 [slOf 7 Event.row v0events,.agg (Record.row v1r),cI v2id] (·=.tup [.agg (Usage.row r.1),cI r.2]):=by
 obtain ⟨i29,hi29,hz29,hs29,hb29⟩:=in_29
 obtain ⟨i54,hi54,hz54,hs54,hb54⟩:=in_54
 obtain ⟨i56,hi56,hz56,hs56,hb56⟩:=in_56
 refine ACall.enter' func11 rfl ntmps11 rfl fun S hS=>?_
 unfold f_enrich_Usage at H
 obtain ⟨y1,hy1,H⟩:=bind_some' H
 refine .A 18 [.r 0,.r 1,.i y1] rfl (g_call (en 37 rfl) rfl rfl (c_f_validate_Check (hy1))) ?_
 refine .ite H rfl (fun H=>?_) (fun H=>?_)
 ·refine .A 7 [.d (.agg (Usage.row (⟨0,0,0,0,([]:List UInt8),([]:List UInt8),0,0,0,false,0,0⟩:Usage)))] rfl (OpQ.g (q_buildP pl_29 hi29 hz29 rfl rfl)) ?_
  refine .R func11 results11 rfl ?_
  cases H
  exact .m rfl (.tupD rfl)
 ·refine .A 8 [] rfl trivial ?_
  refine .ite H rfl (fun H=>?_) (fun H=>?_)
  ·refine .A 6 [.d (.agg (Usage.row (⟨0,0,0,0,([]:List UInt8),([]:List UInt8),0,0,0,false,0,0⟩:Usage)))] rfl (OpQ.g (q_buildP pl_29 hi29 hz29 rfl rfl)) ?_
   refine .R func11 results11 rfl ?_
   cases H
   exact .m rfl (.tupD rfl)
  ·obtain ⟨y2,hy2,H⟩:=bind_some' H
   refine .A 27 [.d (.agg (EnrichSource.row (⟨v1r⟩:EnrichSource))),.d (.agg (EnrichWork.row (⟨(⟨v1r⟩:EnrichSource),v0events⟩:EnrichWork))),.r 2,.d (.tup [.agg (Sub.row y2.1),cB y2.2]),.r 3] rfl ⟨g_call (en 38 rfl) rfl rfl (c_f_enrich_work_owner (hy2)),OpQ.g (q_buildP pl_56 hi56 hz56 rfl rfl),OpQ.g (q_buildP pl_54 hi54 hz54 rfl rfl)⟩ ?_
   refine .ite H rfl (fun H=>?_) (fun H=>?_)
   ·refine .A 6 [.d (.agg (Usage.row (⟨0,0,0,0,([]:List UInt8),([]:List UInt8),0,0,0,false,0,0⟩:Usage)))] rfl (OpQ.g (q_buildP pl_29 hi29 hz29 rfl rfl)) ?_
    refine .R func11 results11 rfl ?_
    cases H
    exact .m rfl (.tupD rfl)
   ·refine .A 12 [] rfl ⟨rfl,rfl,rfl⟩ ?_
    refine .ite H rfl (fun H=>?_) (fun H=>?_)
    ·refine .A 6 [.d (.agg (Usage.row (⟨0,0,0,0,([]:List UInt8),([]:List UInt8),0,0,0,false,0,0⟩:Usage)))] rfl (OpQ.g (q_buildP pl_29 hi29 hz29 rfl rfl)) ?_
     refine .R func11 results11 rfl ?_
     cases H
     exact .m rfl (.tupD rfl)
    ·obtain ⟨y3,hy3,H⟩:=bind_some' H
     refine .A 11 [.d (.agg (Usage.row y3))] rfl (g_call (en 39 rfl) rfl rfl (c_f_enrich_source_usage (hy3))) ?_
     refine .R func11 results11 rfl ?_
     cases H
     exact .m rfl (.tupD rfl)
theorem c_f_enrich_Retail {v0u:Usage} {r:Bool} (H:f_enrich_Retail v0u=some r):ACall prog 17 [.agg (Usage.row v0u)] (·=cB r):=by
 refine ACall.enter' func17 rfl ntmps17 rfl fun S hS=>?_
 unfold f_enrich_Retail at H
 refine .A 12 [.r 0] rfl trivial ?_
 refine .R func17 results17 rfl ?_
 cases H
 exact .m rfl (.rfl' _)
theorem c_f_w21_awake {r:Bool} (H:f_w21_awake=some r):ACall prog 10 [] (·=cB r):=by
 obtain ⟨i24,hi24,hz24,hs24,hb24⟩:=in_24
 refine ACall.enter' func10 rfl ntmps10 rfl fun S hS=>?_
 unfold f_w21_awake at H
 refine .A 11 [.d (.agg (Record.row (⟨1,1,1,([52,57,49,53]:List UInt8),([51,51]:List UInt8),100,5,0,0,false,0,false⟩:Record))),.r 0] rfl (OpQ.g (q_buildP pl_24 hi24 hz24 rfl rfl)) ?_
 refine .copiesL 2 12 24 [14,15] [2,3] [(Record.row (⟨1,1,1,([52,57,49,53]:List UInt8),([51,51]:List UInt8),100,5,0,0,false,0,false⟩:Record)),(Record.row (⟨1,1,1,([52,57,49,53]:List UInt8),([51,51]:List UInt8),100,5,0,0,false,0,false⟩:Record))] hMix (by kernel_rfl) rfl
  (fun k hk=>match k,hk with | 0,_=>⟨_,rfl,rfl,rfl,q_loadOA one_24 sz_24 rfl rfl (Nat.le_of_ble_eq_true rfl) rfl⟩ | 1,_=>⟨_,rfl,rfl,rfl,q_loadOA one_24 sz_24 rfl rfl (Nat.le_of_ble_eq_true rfl) rfl⟩ | k+2,hk=>absurd hk (by omega))
  (fun k hk=>match k,hk with | 0,_=>⟨_,_,_,rfl⟩ | 1,_=>⟨_,_,_,rfl⟩ | k+2,hk=>absurd hk (by omega))
  (fun k hk=>match k,hk with | 0,_=>⟨_,_,_,rfl,⟨_,Array.mem_of_getElem? (i:=1) rfl,rfl,rfl⟩,⟨_,Array.mem_of_getElem? (i:=0) rfl,rfl,rfl⟩⟩ | 1,_=>⟨_,_,_,rfl,⟨_,Array.mem_of_getElem? (i:=1) rfl,rfl,rfl⟩,⟨_,Array.mem_of_getElem? (i:=0) rfl,rfl,rfl⟩⟩ | k+2,hk=>absurd hk (by omega))
  rfl rfl rfl zr_24 rfl sz_24 ?_
 refine .A 17 [.d (.agg (Record.row (⟨1,2,1,([51,51]:List UInt8),([52,57,49,53]:List UInt8),200,5,0,0,false,5,true⟩:Record))),.r 3] rfl (OpQ.g (q_buildP pl_24 hi24 hz24 rfl (by kernel_rfl))) ?_
 obtain ⟨y1,hy1,H⟩:=bind_some' H
 obtain ⟨y2,hy2,H⟩:=bind_some' H
 refine .orders2 8 6 7 [⟨[.row 24 [.d (cI 1),.d (cI 1),.d (cI 1),.d (cS ([52,57,49,53]:List UInt8)),.d (cS ([51,51]:List UInt8)),.d (cI 100),.d (cI 5),.d (cI 0),.d (cI 0),.d (cB false),.d (cI 0),.d (cB false)],.row 24 [.d (cI 1),.d (cI 1),.d (cI 1),.d (cS ([52,57,49,53]:List UInt8)),.d (cS ([51,51]:List UInt8)),.d (cI 99),.d (cI 5),.d (cI 0),.d (cI 0),.d (cB false),.d (cI 0),.d (cB false)],.row 24 [.d (cI 1),.d (cI 1),.d (cI 1),.d (cS ([52,57,49,53]:List UInt8)),.d (cS ([51,51]:List UInt8)),.d (cI 200),.d (cI 5),.d (cI 0),.d (cI 0),.d (cB false),.d (cI 0),.d (cB false)],.row 24 [.d (cI 1),.d (cI 2),.d (cI 1),.d (cS ([51,51]:List UInt8)),.d (cS ([52,57,49,53]:List UInt8)),.d (cI 200),.d (cI 5),.d (cI 0),.d (cI 0),.d (cB false),.d (cI 5),.d (cB true)]],[]⟩,⟨[.row 24 [.d (cI 1),.d (cI 1),.d (cI 1),.d (cS ([52,57,49,53]:List UInt8)),.d (cS ([51,51]:List UInt8)),.d (cI 100),.d (cI 5),.d (cI 0),.d (cI 0),.d (cB false),.d (cI 0),.d (cB false)],.row 24 [.d (cI 1),.d (cI 1),.d (cI 1),.d (cS ([52,57,49,53]:List UInt8)),.d (cS ([51,51]:List UInt8)),.d (cI 99),.d (cI 5),.d (cI 0),.d (cI 0),.d (cB false),.d (cI 0),.d (cB false)],.row 24 [.d (cI 1),.d (cI 1),.d (cI 1),.d (cS ([52,57,49,53]:List UInt8)),.d (cS ([51,51]:List UInt8)),.d (cI 200),.d (cI 5),.d (cI 0),.d (cI 0),.d (cB false),.d (cI 0),.d (cB false)],.row 24 [.d (cI 1),.d (cI 2),.d (cI 1),.d (cS ([51,51]:List UInt8)),.d (cS ([52,57,49,53]:List UInt8)),.d (cI 200),.d (cI 5),.d (cI 0),.d (cI 0),.d (cB false),.d (cI 5),.d (cB true)],.row 29 [.d (cI 0),.d (cI 0),.d (cI 0),.d (cI 0),.d (cS ([]:List UInt8)),.d (cS ([]:List UInt8)),.d (cI 0),.d (cI 0),.d (cI 0),.d (cB false),.d (cI 0),.d (cI 0)]],[]⟩,⟨[.row 24 [.d (cI 1),.d (cI 1),.d (cI 1),.d (cS ([52,57,49,53]:List UInt8)),.d (cS ([51,51]:List UInt8)),.d (cI 100),.d (cI 5),.d (cI 0),.d (cI 0),.d (cB false),.d (cI 0),.d (cB false)],.row 24 [.d (cI 1),.d (cI 1),.d (cI 1),.d (cS ([52,57,49,53]:List UInt8)),.d (cS ([51,51]:List UInt8)),.d (cI 99),.d (cI 5),.d (cI 0),.d (cI 0),.d (cB false),.d (cI 0),.d (cB false)],.row 24 [.d (cI 1),.d (cI 1),.d (cI 1),.d (cS ([52,57,49,53]:List UInt8)),.d (cS ([51,51]:List UInt8)),.d (cI 200),.d (cI 5),.d (cI 0),.d (cI 0),.d (cB false),.d (cI 0),.d (cB false)],.row 24 [.d (cI 1),.d (cI 2),.d (cI 1),.d (cS ([51,51]:List UInt8)),.d (cS ([52,57,49,53]:List UInt8)),.d (cI 200),.d (cI 5),.d (cI 0),.d (cI 0),.d (cB false),.d (cI 5),.d (cB true)],.row 29 [.d (cI y2.1.id),.d (cI y2.1.kind),.d (cI y2.1.account),.d (cI y2.1.sub),.d (cS y2.1.a),.d (cS y2.1.b),.d (cI y2.1.start),.d (cI y2.1.units),.d (cI y2.1.trunk),.d (cB y2.1.inbound),.d (cI y2.1.source),.d (cI y2.1.serial)]],[]⟩] hMix (by kernel_rfl) (by decide) (by decide) (by kernel_rfl) rfl ?_
 show XOps _ _ _ _ _ _ _ _ _ _ (_ :: _) _ _
 refine .g (x:=.d (slOf 7 Event.row y1)) 0 1 ⟨(g_call (en 40 rfl) rfl rfl (c_f_w21_opened (hy1))),(g_call (en 40 rfl) rfl rfl (c_f_w21_opened (hy1))),trivial⟩ rfl (by kernel_rfl) rfl ?_
 refine .g (x:=.d (.agg (Record.row (⟨1,1,1,([52,57,49,53]:List UInt8),([51,51]:List UInt8),100,5,0,0,false,0,false⟩:Record)))) 0 1 ⟨OpQ.g (q_loadOA one_24 sz_24 rfl rfl (Nat.le_of_ble_eq_true rfl) rfl),OpQ.g (q_loadOA one_24 sz_24 rfl rfl (Nat.le_of_ble_eq_true rfl) rfl),trivial⟩ rfl (by kernel_rfl) rfl ?_
 refine .g (x:=.d (.tup [.agg (Usage.row y2.1),cI y2.2])) 0 1 ⟨(g_call (en 41 rfl) rfl rfl (c_f_enrich_Usage (hy2))),(g_call (en 41 rfl) rfl rfl (c_f_enrich_Usage (hy2))),trivial⟩ rfl (by kernel_rfl) rfl ?_
 refine .g (x:=.d (.tup [.agg (Usage.row y2.1),cI y2.2])) 0 1 ⟨OpQ.g (q_move rfl),OpQ.g (q_move rfl),trivial⟩ rfl (by kernel_rfl) rfl ?_
 refine .g (x:=.d (.agg (Usage.row y2.1))) 0 1 ⟨OpQ.g (q_extract rfl rfl),OpQ.g (q_extract rfl rfl),trivial⟩ rfl (by kernel_rfl) rfl ?_
 refine .g (x:=.d (cI y2.2)) 0 2 ⟨OpQ.g (q_extract rfl rfl),OpQ.g (q_extract rfl rfl),OpQ.g (q_extract rfl rfl),trivial⟩ rfl (by kernel_rfl) rfl ?_
 refine .v (x:=.ref 4 0) 0 (v_alloc zr_29 rfl) rfl rfl rfl rfl ?_
 refine .u 1 (u_store rfl rfl rfl rfl (Nat.le_of_ble_eq_true rfl) sz_29) rfl rfl rfl rfl ?_
 refine .nil rfl ?_
 show AOps _ _ _ _ _ _ (_ :: _) _ _ _
 refine .A 3 [] rfl trivial ?_
 obtain ⟨y3,hy3,H⟩:=bind_some' H
 obtain ⟨y4,hy4,H⟩:=bind_some' H
 refine .orders2 8 6 7 [⟨[.row 24 [.d (cI 1),.d (cI 1),.d (cI 1),.d (cS ([52,57,49,53]:List UInt8)),.d (cS ([51,51]:List UInt8)),.d (cI 100),.d (cI 5),.d (cI 0),.d (cI 0),.d (cB false),.d (cI 0),.d (cB false)],.row 24 [.d (cI 1),.d (cI 1),.d (cI 1),.d (cS ([52,57,49,53]:List UInt8)),.d (cS ([51,51]:List UInt8)),.d (cI 99),.d (cI 5),.d (cI 0),.d (cI 0),.d (cB false),.d (cI 0),.d (cB false)],.row 24 [.d (cI 1),.d (cI 1),.d (cI 1),.d (cS ([52,57,49,53]:List UInt8)),.d (cS ([51,51]:List UInt8)),.d (cI 200),.d (cI 5),.d (cI 0),.d (cI 0),.d (cB false),.d (cI 0),.d (cB false)],.row 24 [.d (cI 1),.d (cI 2),.d (cI 1),.d (cS ([51,51]:List UInt8)),.d (cS ([52,57,49,53]:List UInt8)),.d (cI 200),.d (cI 5),.d (cI 0),.d (cI 0),.d (cB false),.d (cI 5),.d (cB true)],.row 29 [.d (cI y2.1.id),.d (cI y2.1.kind),.d (cI y2.1.account),.d (cI y2.1.sub),.d (cS y2.1.a),.d (cS y2.1.b),.d (cI y2.1.start),.d (cI y2.1.units),.d (cI y2.1.trunk),.d (cB y2.1.inbound),.d (cI y2.1.source),.d (cI y2.1.serial)]],[]⟩,⟨[.row 24 [.d (cI 1),.d (cI 1),.d (cI 1),.d (cS ([52,57,49,53]:List UInt8)),.d (cS ([51,51]:List UInt8)),.d (cI 100),.d (cI 5),.d (cI 0),.d (cI 0),.d (cB false),.d (cI 0),.d (cB false)],.row 24 [.d (cI 1),.d (cI 1),.d (cI 1),.d (cS ([52,57,49,53]:List UInt8)),.d (cS ([51,51]:List UInt8)),.d (cI 99),.d (cI 5),.d (cI 0),.d (cI 0),.d (cB false),.d (cI 0),.d (cB false)],.row 24 [.d (cI 1),.d (cI 1),.d (cI 1),.d (cS ([52,57,49,53]:List UInt8)),.d (cS ([51,51]:List UInt8)),.d (cI 200),.d (cI 5),.d (cI 0),.d (cI 0),.d (cB false),.d (cI 0),.d (cB false)],.row 24 [.d (cI 1),.d (cI 2),.d (cI 1),.d (cS ([51,51]:List UInt8)),.d (cS ([52,57,49,53]:List UInt8)),.d (cI 200),.d (cI 5),.d (cI 0),.d (cI 0),.d (cB false),.d (cI 5),.d (cB true)],.row 29 [.d (cI y2.1.id),.d (cI y2.1.kind),.d (cI y2.1.account),.d (cI y2.1.sub),.d (cS y2.1.a),.d (cS y2.1.b),.d (cI y2.1.start),.d (cI y2.1.units),.d (cI y2.1.trunk),.d (cB y2.1.inbound),.d (cI y2.1.source),.d (cI y2.1.serial)],.row 29 [.d (cI 0),.d (cI 0),.d (cI 0),.d (cI 0),.d (cS ([]:List UInt8)),.d (cS ([]:List UInt8)),.d (cI 0),.d (cI 0),.d (cI 0),.d (cB false),.d (cI 0),.d (cI 0)]],[]⟩,⟨[.row 24 [.d (cI 1),.d (cI 1),.d (cI 1),.d (cS ([52,57,49,53]:List UInt8)),.d (cS ([51,51]:List UInt8)),.d (cI 100),.d (cI 5),.d (cI 0),.d (cI 0),.d (cB false),.d (cI 0),.d (cB false)],.row 24 [.d (cI 1),.d (cI 1),.d (cI 1),.d (cS ([52,57,49,53]:List UInt8)),.d (cS ([51,51]:List UInt8)),.d (cI 99),.d (cI 5),.d (cI 0),.d (cI 0),.d (cB false),.d (cI 0),.d (cB false)],.row 24 [.d (cI 1),.d (cI 1),.d (cI 1),.d (cS ([52,57,49,53]:List UInt8)),.d (cS ([51,51]:List UInt8)),.d (cI 200),.d (cI 5),.d (cI 0),.d (cI 0),.d (cB false),.d (cI 0),.d (cB false)],.row 24 [.d (cI 1),.d (cI 2),.d (cI 1),.d (cS ([51,51]:List UInt8)),.d (cS ([52,57,49,53]:List UInt8)),.d (cI 200),.d (cI 5),.d (cI 0),.d (cI 0),.d (cB false),.d (cI 5),.d (cB true)],.row 29 [.d (cI y2.1.id),.d (cI y2.1.kind),.d (cI y2.1.account),.d (cI y2.1.sub),.d (cS y2.1.a),.d (cS y2.1.b),.d (cI y2.1.start),.d (cI y2.1.units),.d (cI y2.1.trunk),.d (cB y2.1.inbound),.d (cI y2.1.source),.d (cI y2.1.serial)],.row 29 [.d (cI y4.1.id),.d (cI y4.1.kind),.d (cI y4.1.account),.d (cI y4.1.sub),.d (cS y4.1.a),.d (cS y4.1.b),.d (cI y4.1.start),.d (cI y4.1.units),.d (cI y4.1.trunk),.d (cB y4.1.inbound),.d (cI y4.1.source),.d (cI y4.1.serial)]],[]⟩] hMix (by kernel_rfl) (by decide) (by decide) (by kernel_rfl) rfl ?_
 show XOps _ _ _ _ _ _ _ _ _ _ (_ :: _) _ _
 refine .g (x:=.d (slOf 7 Event.row y3)) 0 1 ⟨(g_call (en 40 rfl) rfl rfl (c_f_w21_opened (hy3))),(g_call (en 40 rfl) rfl rfl (c_f_w21_opened (hy3))),trivial⟩ rfl (by kernel_rfl) rfl ?_
 refine .g (x:=.d (.agg (Record.row (⟨1,1,1,([52,57,49,53]:List UInt8),([51,51]:List UInt8),99,5,0,0,false,0,false⟩:Record)))) 0 1 ⟨OpQ.g (q_loadOA one_24 sz_24 rfl rfl (Nat.le_of_ble_eq_true rfl) rfl),OpQ.g (q_loadOA one_24 sz_24 rfl rfl (Nat.le_of_ble_eq_true rfl) rfl),trivial⟩ rfl (by kernel_rfl) rfl ?_
 refine .g (x:=.d (.tup [.agg (Usage.row y4.1),cI y4.2])) 0 1 ⟨(g_call (en 41 rfl) rfl rfl (c_f_enrich_Usage (hy4))),(g_call (en 41 rfl) rfl rfl (c_f_enrich_Usage (hy4))),trivial⟩ rfl (by kernel_rfl) rfl ?_
 refine .g (x:=.d (.tup [.agg (Usage.row y4.1),cI y4.2])) 0 1 ⟨OpQ.g (q_move rfl),OpQ.g (q_move rfl),trivial⟩ rfl (by kernel_rfl) rfl ?_
 refine .g (x:=.d (.agg (Usage.row y4.1))) 0 1 ⟨OpQ.g (q_extract rfl rfl),OpQ.g (q_extract rfl rfl),trivial⟩ rfl (by kernel_rfl) rfl ?_
 refine .g (x:=.d (cI y4.2)) 0 2 ⟨OpQ.g (q_extract rfl rfl),OpQ.g (q_extract rfl rfl),OpQ.g (q_extract rfl rfl),trivial⟩ rfl (by kernel_rfl) rfl ?_
 refine .v (x:=.ref 5 0) 0 (v_alloc zr_29 rfl) rfl rfl rfl rfl ?_
 refine .u 1 (u_store rfl rfl rfl rfl (Nat.le_of_ble_eq_true rfl) sz_29) rfl rfl rfl rfl ?_
 refine .nil rfl ?_
 show AOps _ _ _ _ _ _ (_ :: _) _ _ _
 refine .A 3 [] rfl trivial ?_
 obtain ⟨y5,hy5,H⟩:=bind_some' H
 obtain ⟨y6,hy6,H⟩:=bind_some' H
 refine .orders2 8 6 7 [⟨[.row 24 [.d (cI 1),.d (cI 1),.d (cI 1),.d (cS ([52,57,49,53]:List UInt8)),.d (cS ([51,51]:List UInt8)),.d (cI 100),.d (cI 5),.d (cI 0),.d (cI 0),.d (cB false),.d (cI 0),.d (cB false)],.row 24 [.d (cI 1),.d (cI 1),.d (cI 1),.d (cS ([52,57,49,53]:List UInt8)),.d (cS ([51,51]:List UInt8)),.d (cI 99),.d (cI 5),.d (cI 0),.d (cI 0),.d (cB false),.d (cI 0),.d (cB false)],.row 24 [.d (cI 1),.d (cI 1),.d (cI 1),.d (cS ([52,57,49,53]:List UInt8)),.d (cS ([51,51]:List UInt8)),.d (cI 200),.d (cI 5),.d (cI 0),.d (cI 0),.d (cB false),.d (cI 0),.d (cB false)],.row 24 [.d (cI 1),.d (cI 2),.d (cI 1),.d (cS ([51,51]:List UInt8)),.d (cS ([52,57,49,53]:List UInt8)),.d (cI 200),.d (cI 5),.d (cI 0),.d (cI 0),.d (cB false),.d (cI 5),.d (cB true)],.row 29 [.d (cI y2.1.id),.d (cI y2.1.kind),.d (cI y2.1.account),.d (cI y2.1.sub),.d (cS y2.1.a),.d (cS y2.1.b),.d (cI y2.1.start),.d (cI y2.1.units),.d (cI y2.1.trunk),.d (cB y2.1.inbound),.d (cI y2.1.source),.d (cI y2.1.serial)],.row 29 [.d (cI y4.1.id),.d (cI y4.1.kind),.d (cI y4.1.account),.d (cI y4.1.sub),.d (cS y4.1.a),.d (cS y4.1.b),.d (cI y4.1.start),.d (cI y4.1.units),.d (cI y4.1.trunk),.d (cB y4.1.inbound),.d (cI y4.1.source),.d (cI y4.1.serial)]],[]⟩,⟨[.row 24 [.d (cI 1),.d (cI 1),.d (cI 1),.d (cS ([52,57,49,53]:List UInt8)),.d (cS ([51,51]:List UInt8)),.d (cI 100),.d (cI 5),.d (cI 0),.d (cI 0),.d (cB false),.d (cI 0),.d (cB false)],.row 24 [.d (cI 1),.d (cI 1),.d (cI 1),.d (cS ([52,57,49,53]:List UInt8)),.d (cS ([51,51]:List UInt8)),.d (cI 99),.d (cI 5),.d (cI 0),.d (cI 0),.d (cB false),.d (cI 0),.d (cB false)],.row 24 [.d (cI 1),.d (cI 1),.d (cI 1),.d (cS ([52,57,49,53]:List UInt8)),.d (cS ([51,51]:List UInt8)),.d (cI 200),.d (cI 5),.d (cI 0),.d (cI 0),.d (cB false),.d (cI 0),.d (cB false)],.row 24 [.d (cI 1),.d (cI 2),.d (cI 1),.d (cS ([51,51]:List UInt8)),.d (cS ([52,57,49,53]:List UInt8)),.d (cI 200),.d (cI 5),.d (cI 0),.d (cI 0),.d (cB false),.d (cI 5),.d (cB true)],.row 29 [.d (cI y2.1.id),.d (cI y2.1.kind),.d (cI y2.1.account),.d (cI y2.1.sub),.d (cS y2.1.a),.d (cS y2.1.b),.d (cI y2.1.start),.d (cI y2.1.units),.d (cI y2.1.trunk),.d (cB y2.1.inbound),.d (cI y2.1.source),.d (cI y2.1.serial)],.row 29 [.d (cI y4.1.id),.d (cI y4.1.kind),.d (cI y4.1.account),.d (cI y4.1.sub),.d (cS y4.1.a),.d (cS y4.1.b),.d (cI y4.1.start),.d (cI y4.1.units),.d (cI y4.1.trunk),.d (cB y4.1.inbound),.d (cI y4.1.source),.d (cI y4.1.serial)],.row 29 [.d (cI 0),.d (cI 0),.d (cI 0),.d (cI 0),.d (cS ([]:List UInt8)),.d (cS ([]:List UInt8)),.d (cI 0),.d (cI 0),.d (cI 0),.d (cB false),.d (cI 0),.d (cI 0)]],[]⟩,⟨[.row 24 [.d (cI 1),.d (cI 1),.d (cI 1),.d (cS ([52,57,49,53]:List UInt8)),.d (cS ([51,51]:List UInt8)),.d (cI 100),.d (cI 5),.d (cI 0),.d (cI 0),.d (cB false),.d (cI 0),.d (cB false)],.row 24 [.d (cI 1),.d (cI 1),.d (cI 1),.d (cS ([52,57,49,53]:List UInt8)),.d (cS ([51,51]:List UInt8)),.d (cI 99),.d (cI 5),.d (cI 0),.d (cI 0),.d (cB false),.d (cI 0),.d (cB false)],.row 24 [.d (cI 1),.d (cI 1),.d (cI 1),.d (cS ([52,57,49,53]:List UInt8)),.d (cS ([51,51]:List UInt8)),.d (cI 200),.d (cI 5),.d (cI 0),.d (cI 0),.d (cB false),.d (cI 0),.d (cB false)],.row 24 [.d (cI 1),.d (cI 2),.d (cI 1),.d (cS ([51,51]:List UInt8)),.d (cS ([52,57,49,53]:List UInt8)),.d (cI 200),.d (cI 5),.d (cI 0),.d (cI 0),.d (cB false),.d (cI 5),.d (cB true)],.row 29 [.d (cI y2.1.id),.d (cI y2.1.kind),.d (cI y2.1.account),.d (cI y2.1.sub),.d (cS y2.1.a),.d (cS y2.1.b),.d (cI y2.1.start),.d (cI y2.1.units),.d (cI y2.1.trunk),.d (cB y2.1.inbound),.d (cI y2.1.source),.d (cI y2.1.serial)],.row 29 [.d (cI y4.1.id),.d (cI y4.1.kind),.d (cI y4.1.account),.d (cI y4.1.sub),.d (cS y4.1.a),.d (cS y4.1.b),.d (cI y4.1.start),.d (cI y4.1.units),.d (cI y4.1.trunk),.d (cB y4.1.inbound),.d (cI y4.1.source),.d (cI y4.1.serial)],.row 29 [.d (cI y6.1.id),.d (cI y6.1.kind),.d (cI y6.1.account),.d (cI y6.1.sub),.d (cS y6.1.a),.d (cS y6.1.b),.d (cI y6.1.start),.d (cI y6.1.units),.d (cI y6.1.trunk),.d (cB y6.1.inbound),.d (cI y6.1.source),.d (cI y6.1.serial)]],[]⟩] hMix (by kernel_rfl) (by decide) (by decide) (by kernel_rfl) rfl ?_
 show XOps _ _ _ _ _ _ _ _ _ _ (_ :: _) _ _
 refine .g (x:=.d (slOf 7 Event.row y5)) 0 1 ⟨(g_call (en 40 rfl) rfl rfl (c_f_w21_opened (hy5))),(g_call (en 40 rfl) rfl rfl (c_f_w21_opened (hy5))),trivial⟩ rfl (by kernel_rfl) rfl ?_
 refine .g (x:=.d (.agg (Record.row (⟨1,1,1,([52,57,49,53]:List UInt8),([51,51]:List UInt8),200,5,0,0,false,0,false⟩:Record)))) 0 1 ⟨OpQ.g (q_loadOA one_24 sz_24 rfl rfl (Nat.le_of_ble_eq_true rfl) rfl),OpQ.g (q_loadOA one_24 sz_24 rfl rfl (Nat.le_of_ble_eq_true rfl) rfl),trivial⟩ rfl (by kernel_rfl) rfl ?_
 refine .g (x:=.d (.tup [.agg (Usage.row y6.1),cI y6.2])) 0 1 ⟨(g_call (en 41 rfl) rfl rfl (c_f_enrich_Usage (hy6))),(g_call (en 41 rfl) rfl rfl (c_f_enrich_Usage (hy6))),trivial⟩ rfl (by kernel_rfl) rfl ?_
 refine .g (x:=.d (.tup [.agg (Usage.row y6.1),cI y6.2])) 0 1 ⟨OpQ.g (q_move rfl),OpQ.g (q_move rfl),trivial⟩ rfl (by kernel_rfl) rfl ?_
 refine .g (x:=.d (.agg (Usage.row y6.1))) 0 1 ⟨OpQ.g (q_extract rfl rfl),OpQ.g (q_extract rfl rfl),trivial⟩ rfl (by kernel_rfl) rfl ?_
 refine .g (x:=.d (cI y6.2)) 0 2 ⟨OpQ.g (q_extract rfl rfl),OpQ.g (q_extract rfl rfl),OpQ.g (q_extract rfl rfl),trivial⟩ rfl (by kernel_rfl) rfl ?_
 refine .v (x:=.ref 6 0) 0 (v_alloc zr_29 rfl) rfl rfl rfl rfl ?_
 refine .u 1 (u_store rfl rfl rfl rfl (Nat.le_of_ble_eq_true rfl) sz_29) rfl rfl rfl rfl ?_
 refine .nil rfl ?_
 show AOps _ _ _ _ _ _ (_ :: _) _ _ _
 refine .A 3 [] rfl trivial ?_
 obtain ⟨y7,hy7,H⟩:=bind_some' H
 obtain ⟨y8,hy8,H⟩:=bind_some' H
 refine .orders2 8 6 7 [⟨[.row 24 [.d (cI 1),.d (cI 1),.d (cI 1),.d (cS ([52,57,49,53]:List UInt8)),.d (cS ([51,51]:List UInt8)),.d (cI 100),.d (cI 5),.d (cI 0),.d (cI 0),.d (cB false),.d (cI 0),.d (cB false)],.row 24 [.d (cI 1),.d (cI 1),.d (cI 1),.d (cS ([52,57,49,53]:List UInt8)),.d (cS ([51,51]:List UInt8)),.d (cI 99),.d (cI 5),.d (cI 0),.d (cI 0),.d (cB false),.d (cI 0),.d (cB false)],.row 24 [.d (cI 1),.d (cI 1),.d (cI 1),.d (cS ([52,57,49,53]:List UInt8)),.d (cS ([51,51]:List UInt8)),.d (cI 200),.d (cI 5),.d (cI 0),.d (cI 0),.d (cB false),.d (cI 0),.d (cB false)],.row 24 [.d (cI 1),.d (cI 2),.d (cI 1),.d (cS ([51,51]:List UInt8)),.d (cS ([52,57,49,53]:List UInt8)),.d (cI 200),.d (cI 5),.d (cI 0),.d (cI 0),.d (cB false),.d (cI 5),.d (cB true)],.row 29 [.d (cI y2.1.id),.d (cI y2.1.kind),.d (cI y2.1.account),.d (cI y2.1.sub),.d (cS y2.1.a),.d (cS y2.1.b),.d (cI y2.1.start),.d (cI y2.1.units),.d (cI y2.1.trunk),.d (cB y2.1.inbound),.d (cI y2.1.source),.d (cI y2.1.serial)],.row 29 [.d (cI y4.1.id),.d (cI y4.1.kind),.d (cI y4.1.account),.d (cI y4.1.sub),.d (cS y4.1.a),.d (cS y4.1.b),.d (cI y4.1.start),.d (cI y4.1.units),.d (cI y4.1.trunk),.d (cB y4.1.inbound),.d (cI y4.1.source),.d (cI y4.1.serial)],.row 29 [.d (cI y6.1.id),.d (cI y6.1.kind),.d (cI y6.1.account),.d (cI y6.1.sub),.d (cS y6.1.a),.d (cS y6.1.b),.d (cI y6.1.start),.d (cI y6.1.units),.d (cI y6.1.trunk),.d (cB y6.1.inbound),.d (cI y6.1.source),.d (cI y6.1.serial)]],[]⟩,⟨[.row 24 [.d (cI 1),.d (cI 1),.d (cI 1),.d (cS ([52,57,49,53]:List UInt8)),.d (cS ([51,51]:List UInt8)),.d (cI 100),.d (cI 5),.d (cI 0),.d (cI 0),.d (cB false),.d (cI 0),.d (cB false)],.row 24 [.d (cI 1),.d (cI 1),.d (cI 1),.d (cS ([52,57,49,53]:List UInt8)),.d (cS ([51,51]:List UInt8)),.d (cI 99),.d (cI 5),.d (cI 0),.d (cI 0),.d (cB false),.d (cI 0),.d (cB false)],.row 24 [.d (cI 1),.d (cI 1),.d (cI 1),.d (cS ([52,57,49,53]:List UInt8)),.d (cS ([51,51]:List UInt8)),.d (cI 200),.d (cI 5),.d (cI 0),.d (cI 0),.d (cB false),.d (cI 0),.d (cB false)],.row 24 [.d (cI 1),.d (cI 2),.d (cI 1),.d (cS ([51,51]:List UInt8)),.d (cS ([52,57,49,53]:List UInt8)),.d (cI 200),.d (cI 5),.d (cI 0),.d (cI 0),.d (cB false),.d (cI 5),.d (cB true)],.row 29 [.d (cI y2.1.id),.d (cI y2.1.kind),.d (cI y2.1.account),.d (cI y2.1.sub),.d (cS y2.1.a),.d (cS y2.1.b),.d (cI y2.1.start),.d (cI y2.1.units),.d (cI y2.1.trunk),.d (cB y2.1.inbound),.d (cI y2.1.source),.d (cI y2.1.serial)],.row 29 [.d (cI y4.1.id),.d (cI y4.1.kind),.d (cI y4.1.account),.d (cI y4.1.sub),.d (cS y4.1.a),.d (cS y4.1.b),.d (cI y4.1.start),.d (cI y4.1.units),.d (cI y4.1.trunk),.d (cB y4.1.inbound),.d (cI y4.1.source),.d (cI y4.1.serial)],.row 29 [.d (cI y6.1.id),.d (cI y6.1.kind),.d (cI y6.1.account),.d (cI y6.1.sub),.d (cS y6.1.a),.d (cS y6.1.b),.d (cI y6.1.start),.d (cI y6.1.units),.d (cI y6.1.trunk),.d (cB y6.1.inbound),.d (cI y6.1.source),.d (cI y6.1.serial)],.row 29 [.d (cI 0),.d (cI 0),.d (cI 0),.d (cI 0),.d (cS ([]:List UInt8)),.d (cS ([]:List UInt8)),.d (cI 0),.d (cI 0),.d (cI 0),.d (cB false),.d (cI 0),.d (cI 0)]],[]⟩,⟨[.row 24 [.d (cI 1),.d (cI 1),.d (cI 1),.d (cS ([52,57,49,53]:List UInt8)),.d (cS ([51,51]:List UInt8)),.d (cI 100),.d (cI 5),.d (cI 0),.d (cI 0),.d (cB false),.d (cI 0),.d (cB false)],.row 24 [.d (cI 1),.d (cI 1),.d (cI 1),.d (cS ([52,57,49,53]:List UInt8)),.d (cS ([51,51]:List UInt8)),.d (cI 99),.d (cI 5),.d (cI 0),.d (cI 0),.d (cB false),.d (cI 0),.d (cB false)],.row 24 [.d (cI 1),.d (cI 1),.d (cI 1),.d (cS ([52,57,49,53]:List UInt8)),.d (cS ([51,51]:List UInt8)),.d (cI 200),.d (cI 5),.d (cI 0),.d (cI 0),.d (cB false),.d (cI 0),.d (cB false)],.row 24 [.d (cI 1),.d (cI 2),.d (cI 1),.d (cS ([51,51]:List UInt8)),.d (cS ([52,57,49,53]:List UInt8)),.d (cI 200),.d (cI 5),.d (cI 0),.d (cI 0),.d (cB false),.d (cI 5),.d (cB true)],.row 29 [.d (cI y2.1.id),.d (cI y2.1.kind),.d (cI y2.1.account),.d (cI y2.1.sub),.d (cS y2.1.a),.d (cS y2.1.b),.d (cI y2.1.start),.d (cI y2.1.units),.d (cI y2.1.trunk),.d (cB y2.1.inbound),.d (cI y2.1.source),.d (cI y2.1.serial)],.row 29 [.d (cI y4.1.id),.d (cI y4.1.kind),.d (cI y4.1.account),.d (cI y4.1.sub),.d (cS y4.1.a),.d (cS y4.1.b),.d (cI y4.1.start),.d (cI y4.1.units),.d (cI y4.1.trunk),.d (cB y4.1.inbound),.d (cI y4.1.source),.d (cI y4.1.serial)],.row 29 [.d (cI y6.1.id),.d (cI y6.1.kind),.d (cI y6.1.account),.d (cI y6.1.sub),.d (cS y6.1.a),.d (cS y6.1.b),.d (cI y6.1.start),.d (cI y6.1.units),.d (cI y6.1.trunk),.d (cB y6.1.inbound),.d (cI y6.1.source),.d (cI y6.1.serial)],.row 29 [.d (cI y8.1.id),.d (cI y8.1.kind),.d (cI y8.1.account),.d (cI y8.1.sub),.d (cS y8.1.a),.d (cS y8.1.b),.d (cI y8.1.start),.d (cI y8.1.units),.d (cI y8.1.trunk),.d (cB y8.1.inbound),.d (cI y8.1.source),.d (cI y8.1.serial)]],[]⟩] hMix (by kernel_rfl) (by decide) (by decide) (by kernel_rfl) rfl ?_
 show XOps _ _ _ _ _ _ _ _ _ _ (_ :: _) _ _
 refine .g (x:=.d (slOf 7 Event.row y7)) 0 1 ⟨(g_call (en 40 rfl) rfl rfl (c_f_w21_opened (hy7))),(g_call (en 40 rfl) rfl rfl (c_f_w21_opened (hy7))),trivial⟩ rfl (by kernel_rfl) rfl ?_
 refine .g (x:=.d (.agg (Record.row (⟨1,2,1,([51,51]:List UInt8),([52,57,49,53]:List UInt8),200,5,0,0,false,5,true⟩:Record)))) 0 1 ⟨OpQ.g (q_loadOA one_24 sz_24 rfl rfl (Nat.le_of_ble_eq_true rfl) rfl),OpQ.g (q_loadOA one_24 sz_24 rfl rfl (Nat.le_of_ble_eq_true rfl) rfl),trivial⟩ rfl (by kernel_rfl) rfl ?_
 refine .g (x:=.d (.tup [.agg (Usage.row y8.1),cI y8.2])) 0 1 ⟨(g_call (en 41 rfl) rfl rfl (c_f_enrich_Usage (hy8))),(g_call (en 41 rfl) rfl rfl (c_f_enrich_Usage (hy8))),trivial⟩ rfl (by kernel_rfl) rfl ?_
 refine .g (x:=.d (.tup [.agg (Usage.row y8.1),cI y8.2])) 0 1 ⟨OpQ.g (q_move rfl),OpQ.g (q_move rfl),trivial⟩ rfl (by kernel_rfl) rfl ?_
 refine .g (x:=.d (.agg (Usage.row y8.1))) 0 1 ⟨OpQ.g (q_extract rfl rfl),OpQ.g (q_extract rfl rfl),trivial⟩ rfl (by kernel_rfl) rfl ?_
 refine .g (x:=.d (cI y8.2)) 0 2 ⟨OpQ.g (q_extract rfl rfl),OpQ.g (q_extract rfl rfl),OpQ.g (q_extract rfl rfl),trivial⟩ rfl (by kernel_rfl) rfl ?_
 refine .v (x:=.ref 7 0) 0 (v_alloc zr_29 rfl) rfl rfl rfl rfl ?_
 refine .u 1 (u_store rfl rfl rfl rfl (Nat.le_of_ble_eq_true rfl) sz_29) rfl rfl rfl rfl ?_
 refine .nil rfl ?_
 show AOps _ _ _ _ _ _ (_ :: _) _ _ _
 obtain ⟨y9,hy9,H⟩:=bind_some' H
 obtain ⟨y10,hy10,H⟩:=bind_some' H
 refine .A 49 [.b y9,.b y10] rfl ⟨rfl,rfl,fun hg=>g_call (en 42 rfl) rfl rfl (c_f_enrich_Retail (gcall_some hy10 hg)),rfl,rfl,rfl,rfl,rfl,fun hg=>g_call (en 42 rfl) rfl rfl (c_f_enrich_Retail (gcall_some hy9 hg)),rfl,rfl,rfl,rfl,rfl,rfl,rfl,rfl,rfl,rfl,rfl,rfl,rfl,rfl,rfl,rfl⟩ ?_
 refine .R func10 results10 rfl ?_
 cases H
 exact .m rfl (.rfl' _)
theorem c_f_enrich_Key {v0u:Usage} {r:Int×Int} (H:f_enrich_Key v0u=some r):ACall prog 16 [.agg (Usage.row v0u)] (·=.tup [cI r.1,cI r.2]):=by
 refine ACall.enter' func16 rfl ntmps16 rfl fun S hS=>?_
 unfold f_enrich_Key at H
 refine .A 16 [.r 0,.p 6] rfl ((show drawB _ _=true by kernel_rfl)) ?_
 refine .R func16 results16 rfl ?_
 cases H
 exact .m rfl (.tupD rfl)
theorem c_f_w21_EnrichKeys {v0u:Usage} {r:Bool} (H:f_w21_EnrichKeys v0u=some r):ACall prog 7 [.agg (Usage.row v0u)] (·=cB r):=by
 refine ACall.enter' func7 rfl ntmps7 rfl fun S hS=>?_
 unfold f_w21_EnrichKeys at H
 obtain ⟨y1,hy1,H⟩:=bind_some' H
 obtain ⟨y2,hy2,H⟩:=bind_some' H
 obtain ⟨y3,hy3,H⟩:=bind_some' H
 refine .A 41 [.r 0,.d (.tup [cI y1.1,cI y1.2]),.p 22,.b y2,.b (y2==(!v0u.inbound)),.b y3] rfl ⟨rfl,fun hg=>g_call (en 45 rfl) rfl rfl (c_f_w21_awake (gcall_some hy3 hg)),rfl,rfl,rfl,rfl,rfl,rfl,rfl,rfl,OpQ.g (q_beql rfl underlying4 rfl),g_call (en 42 rfl) rfl rfl (c_f_enrich_Retail (hy2)),(show drawB _ _=true by kernel_rfl),g_call (en 46 rfl) rfl rfl (c_f_enrich_Key (hy1))⟩ ?_
 refine .R func7 results7 rfl ?_
 cases H
 exact .m rfl (.rfl' _)
set_option maxRecDepth 100000
set_option maxHeartbeats 1000000
end Go.Proofs.YtnjdcednocmcnaaDoor
namespace Go.Proofs.YtnjdcednocmcnaaDoor
open Go.RowKit Go.Abs
theorem awake_true:f_w21_awake=some true:=by kernel_rfl
theorem keys_true (u:Usage):f_w21_EnrichKeys u=some true:=by
 unfold f_w21_EnrichKeys f_enrich_Key f_enrich_Retail
 rw [awake_true]
 simp [gcall]
end Go.Proofs.YtnjdcednocmcnaaDoor
namespace Go.Abs
open Go.RowKit Go.ChangeShapes Go.WideShapes Go.Deep
inductive Sh where
 | i (k:IntKind)
 | b
 | s
 | sl (row:List Sh)
inductive DFits:Sh→D→Prop where
 | i (k:IntKind) (n:Int) (h:(Lit.int k n).wf=true):DFits (.i k) (.ex (.int k n))
 | b (x:Bool):DFits .b (.ex (.bool x))
 | s (l:List UInt8) (h:l.length≤maxLen):DFits .s (.ex (.string ⟨l.toArray⟩))
 | sl (row:List Sh) (rows:List (List D)) (hn:rows.length≤maxLen) (h1:∀ r,r∈rows→r.length=row.length)
   (h:∀ r,r∈rows→∀ (i:Nat) sh d,row[i]?=some sh→r[i]?=some d→DFits sh d):DFits (.sl row) (.sl row.length rows)
def shapeFs (P:Program) (rec:TypeId→Option (List Sh)):List Field→Nat→Option (List Sh)
 | [],_=>some []
 | f :: fs,off=>match rec f.type with
  | some r=>if Nat.beq f.offset off && Nat.beq r.length (P.cellsOf f.type) then (shapeFs P rec fs (off+r.length)).map (r++·) else none
  | none=>none
def shape (P:Program):Nat→TypeId→Option (List Sh)
 | 0,_=>none
 | n+1,t=>match P.underlying t with
  | some (.int k)=>some [.i k]
  | some .bool=>some [.b]
  | some .string=>some [.s]
  | some (.slice e)=>match shape P n e with
   | some r=>if Nat.beq r.length (P.cellsOf e) && Nat.blt 0 r.length then some [.sl r] else none
   | none=>none
  | some (.struct fs)=>match shapeFs P (shape P n) fs.toList 0 with
   | some r=>if Nat.beq r.length (P.cellsOf t) then some r else none
   | none=>none
  | _=>none
def Opens (lim:Nat→Nat) (w:World) (shs:List Sh) (cs:List Value):Prop :=
 ∃ ds:List D,ds.length=shs.length∧cs.length=shs.length∧∀ (i:Nat) sh d c,shs[i]?=some sh→ds[i]?=some d→cs[i]?=some c→DFits sh d∧DRep lim w d c∧c.oneCell'=true
theorem Opens.one {lim:Nat→Nat} {w:World} {sh:Sh} {d:D} {c:Value} (h1:DFits sh d) (h2:DRep lim w d c) (h3:c.oneCell'=true):Opens lim w [sh] [c]:=by
 refine ⟨[d],rfl,rfl,fun i sh' d' c' ha hb hc=>?_⟩
 cases i with
 | zero=>simp at ha hb hc; subst ha; subst hb; subst hc; exact ⟨h1,h2,h3⟩
 | succ i=>simp at ha
theorem Opens.nil {lim:Nat→Nat} {w:World}:Opens lim w [] []:=⟨[],rfl,rfl,fun i _ _ _ h=>by simp at h⟩
theorem Opens.append {lim:Nat→Nat} {w:World} {s1 s2:List Sh} {c1 c2:List Value} (h:Opens lim w s1 c1) (k:Opens lim w s2 c2):Opens lim w (s1++s2) (c1++c2):=by
 obtain ⟨d1,a1,b1,e1⟩:=h
 obtain ⟨d2,a2,b2,e2⟩:=k
 refine ⟨d1++d2,by simp [a1,a2],by simp [b1,b2],fun i sh d c ha hb hc=>?_⟩
 by_cases hi:i < s1.length
 ·rw [List.getElem?_append_left hi] at ha
  rw [List.getElem?_append_left (by omega)] at hb hc
  exact e1 i sh d c ha hb hc
 ·rw [List.getElem?_append_right (by omega)] at ha hb hc
  rw [a1] at hb
  rw [b1] at hc
  exact e2 _ sh d c ha hb hc
section opening
variable {H:Type} {enc:TypeId×Value→H} {P:Program} {w:World} {held:Bool} {lim:Nat→Nat}
theorem opens_fields {rec:TypeId→Option (List Sh)} (cs:List Value):∀ (fs:List Field) (off:Nat) (shs:List Sh),shapeFs P rec fs off=some shs→cs.length=off+shs.length →
  (∀ (i:Nat) f,fs[i]?=some f→∀ r,rec f.type=some r→r.length=P.cellsOf f.type→Opens lim w r ((cs.drop f.offset).take (P.cellsOf f.type)))→Opens lim w shs (cs.drop off)
 | [],off,shs,h,hl,_=>by
  simp [shapeFs] at h; subst h
  rw [List.drop_of_length_le (by simp at hl; omega)]
  exact .nil
 | f :: fs,off,shs,h,hl,hf=>by
  unfold shapeFs at h
  split at h
  ·rename_i r hr
   split at h
   ·rename_i hc
    rw [Bool.and_eq_true] at hc
    replace hc:=And.intro (Nat.eq_of_beq_eq_true hc.1) (Nat.eq_of_beq_eq_true hc.2)
    obtain ⟨rest,hrest,rfl⟩:=Option.map_eq_some_iff.1 h
    simp only [List.length_append] at hl
    have h1:=hf 0 f rfl r hr hc.2
    have h2:=opens_fields cs fs (off+r.length) rest hrest (by omega) fun i g hg=>hf (i+1) g (by simpa using hg)
    have e:cs.drop off=(cs.drop f.offset).take (P.cellsOf f.type)++cs.drop (off+r.length):=by
     rw [hc.1,←hc.2,←List.drop_drop,List.take_append_drop]
    rw [e]
    exact h1.append h2
   ·cases h
  ·cases h
theorem opens_shape (hlim:∀ b off u,w.cell? ⟨b,off,none⟩=some u→off < lim b):∀ (n:Nat) (t:TypeId) (shs:List Sh),shape P n t=some shs→∀ fuel cs x,DataW.trod enc P w 0 (fun _=>true) held fuel t cs=some x→Opens lim w shs cs
 | 0,_,_,h=>by simp [shape] at h
 | n+1,t,shs,h=>by
  intro fuel cs x ht
  unfold shape at h
  split at h
  ·rename_i k hu
   cases h
   obtain ⟨m,rfl,_,hw⟩:=DataW.trod_int hu ht
   exact .one (.i k m hw) (.ex _) rfl
  ·rename_i hu
   cases h
   obtain ⟨b,rfl,_⟩:=DataW.trod_bool hu ht
   exact .one (.b b) (.ex _) rfl
  ·rename_i hu
   cases h
   obtain ⟨⟨a⟩,rfl,_,hs⟩:=DataW.trod_string hu ht
   exact .one (.s a.toList (by simpa [ByteArray.size] using hs)) (.ex _) rfl
  ·rename_i e hu
   split at h
   ·rename_i r hr
    split at h
    ·rename_i hc
     cases h
     rw [Bool.and_eq_true] at hc
     obtain ⟨hc1,hc2⟩:=And.intro (Nat.eq_of_beq_eq_true hc.1) (blt_lt hc.2)
     rcases open_slice hu ht with ⟨rfl,_⟩ | ⟨a,len,cap,m,n',D0,Pl,rfl,hb,hl,hm,hmm,hx,hi⟩
     ·exact .one (.sl r [] (Nat.zero_le _) (fun _ h=>by cases h) (fun _ h=>by cases h)) (.nil _ _) rfl
     ·simp only [if_true] at hmm
      subst hmm
      obtain ⟨F,hF⟩:=choose_lt (n:=m) (p:=fun i (ds:List D)=>ds.length=r.length∧∀ (j:Nat) sh d,r[j]?=some sh→ds[j]?=some d→∃ c,w.cell? (a.add (i*r.length+j))=some c∧DFits sh d∧DRep lim w d c∧c.oneCell'=true) (fun i hi'=>by
       obtain ⟨cs',h1,h2⟩:=hi i hi'
       obtain ⟨ds,k1,k2,k3⟩:=opens_shape hlim n e r hr n' cs' _ h2
       obtain ⟨_,h3,h4⟩:=World.cells?_some h1
       refine ⟨ds,k1,fun j sh d hj hd=>?_⟩
       have hjl:j < r.length:=(List.getElem?_eq_some_iff.1 hj).1
       have hc':cs'[j]?=some (cs'[j]'(by omega)):=List.getElem?_eq_getElem (by omega)
       refine ⟨cs'[j]'(by omega),?_,k3 j sh d _ hj hd hc'⟩
       rw [←hc',←h4 j (by omega),←hc1,Go.Deep.add_add])
      have hfit:DFits (.sl r) (.sl r.length ((List.range len).map F)):=by
       refine .sl r _ (by simp; omega) (fun row hrow=>?_) fun row hrow i sh d hs hd=>?_
       ·obtain ⟨i,hi2,rfl⟩:=List.mem_map.1 hrow
        exact (hF i (by have:=List.mem_range.1 hi2; omega)).1
       ·obtain ⟨i',hi2,rfl⟩:=List.mem_map.1 hrow
        obtain ⟨c,_,hh,_⟩:=(hF i' (by have:=List.mem_range.1 hi2; omega)).2 i sh d hs hd
        exact hh
      refine .one hfit ?_ rfl
      rcases Nat.eq_zero_or_pos m with h0 | h0
      ·subst h0
       have:len=0:=by omega
       subst this
       exact .nil _ _
      ·have hspot:a.spot=none:=by
        obtain ⟨cs',h1,h2⟩:=hi 0 h0
        obtain ⟨_,h3,h4⟩:=World.cells?_some h1
        have h5:=h4 0 (by omega)
        have h6:cs'[0]?=some (cs'[0]'(by omega)):=List.getElem?_eq_getElem (by omega)
        rw [h6] at h5
        unfold World.cell? at h5
        split at h5
        ·split at h5
         ·cases h5
         ·rename_i hsp
          simpa [Addr.add] using hsp
        ·cases h5
       obtain ⟨b,off,sp⟩:=a
       simp only at hspot
       subst hspot
       have hcell:∀ i j,i < m→j < r.length→∀ sh d,r[j]?=some sh→(F i)[j]?=some d→∃ c,w.cell? ⟨b,off+(i*r.length+j),none⟩=some c∧DFits sh d∧DRep lim w d c∧c.oneCell'=true:=fun i j hi' hj sh d hs hd=>by
        obtain ⟨c,h1,h2⟩:=(hF i hi').2 j sh d hs hd
        rw [Addr.add_lit] at h1
        exact ⟨c,h1,h2⟩
       have hlen:((List.range len).map F).length=len:=by simp
       have key:=DRep.sl (lim:=lim) (w:=w) r.length ((List.range len).map F) b off m (by rw [hlen]; exact hl) (fun row hrow=>by
        obtain ⟨i,hi2,rfl⟩:=List.mem_map.1 hrow
        exact (hF i (by have:=List.mem_range.1 hi2; omega)).1) (fun k hk=>by
        rw [hlen] at hk
        have hdiv:k / r.length < len:=Nat.div_lt_of_lt_mul (by rw [Nat.mul_comm]; exact hk)
        have hmod:k % r.length < r.length:=Nat.mod_lt _ hc2
        obtain ⟨c,h1,h2,h3,h4⟩:=hcell (k / r.length) (k % r.length) (by omega) hmod _ _ (List.getElem?_eq_getElem hmod) (List.getElem?_eq_getElem (by rw [(hF _ (by omega)).1]; exact hmod))
        have e:k / r.length*r.length+k % r.length=k:=by rw [Nat.mul_comm]; exact Nat.div_add_mod k r.length
        rw [e] at h1
        exact ⟨hlim _ _ _ h1,c,h1,h4⟩) (fun i j row c u h1 h2 h3=>by
        rw [List.getElem?_map] at h1
        obtain ⟨i',hi2,rfl⟩:=Option.map_eq_some_iff.1 h1
        have hil:i < len:=by have:=(List.getElem?_eq_some_iff.1 hi2).1; simpa using this
        have:i'=i:=by rw [List.getElem?_range hil] at hi2; cases hi2; rfl
        subst this
        have hjl:j < r.length:=by have:=(List.getElem?_eq_some_iff.1 h2).1; rw [(hF _ (by omega)).1] at this; exact this
        obtain ⟨c',k1,k2,k3,k4⟩:=hcell i' j (by omega) hjl _ _ (List.getElem?_eq_getElem hjl) h2
        rw [h3] at k1
        cases k1
        exact k3)
       rw [hlen] at key
       exact key
    ·cases h
   ·cases h
  ·rename_i fs hu
   split at h
   ·rename_i r hr
    split at h
    ·rename_i hc
     cases h
     have hc':=Nat.eq_of_beq_eq_true hc
     obtain ⟨ys,n',_,hy,hlen,hyl,hf⟩:=DataW.trod_struct hu ht
     have:=opens_fields (lim:=lim) (w:=w) (P:=P) cs fs.toList 0 _ hr (by omega) fun i f hi r' hr' hl'=>by
      have h1:=hf i f (by simpa using hi)
      have hys:ys[i]?=some (ys[i]'(by have:=(List.getElem?_eq_some_iff.1 hi).1; simp at this; omega)):=List.getElem?_eq_getElem _
      exact opens_shape hlim n f.type r' hr' n' _ _ (h1.trans hys)
     simpa using this
    ·cases h
   ·cases h
  ·cases h
end opening
end Go.Abs
namespace Go.Abs
open Go.RowKit Go.ChangeShapes Go.WideShapes Go.Deep Go.ChangeAt
def limW (w:World) (b:Nat):Nat:=match w.heap[b]? with
 | some (.cells c _ _)=>c.size
 | _=>0
theorem limW_lt (w:World) (b off:Nat) (u:Value) (h:w.cell? ⟨b,off,none⟩=some u):off < limW w b:=by
 unfold World.cell? at h
 unfold limW
 split at h
 ·rename_i c e k hb
  simp only at hb
  rw [hb]
  simp only [Option.isSome_none,Bool.false_eq_true,if_false] at h
  exact (Array.getElem?_eq_some_iff.1 h).1
 ·cases h
theorem DFits.i_inv {d:D} (h:DFits (.i .i64) d):∃ n:Int,d=.ex (.int .i64 n)∧-9223372036854775808≤n∧n≤9223372036854775807:=by
 cases h with
 | i _ n hw=>simp only [Lit.wf,Bool.and_eq_true,decide_eq_true_eq] at hw; exact ⟨n,rfl,hw⟩
theorem DFits.b_inv {d:D} (h:DFits .b d):∃ x:Bool,d=.ex (.bool x):=by cases h with | b x=>exact ⟨x,rfl⟩
section
variable {H:Type} {enc:TypeId×Value→H} {P:Program}
theorem post_of_below {f:Func} {s:ChangeSpec} {apart fresh handsOn again:Bool} {W W':World} {args:Array Value} {v:Value} {ds gs:List (DataW H)} {before pa pv:List MemPlace}
  (hW:DataW.Whole enc P f.params.toList s.vars apart W args.toList ds gs before)
  (hres:∀ (b:Nat) (sp:Nat→Bool) (hd:Bool),DataW.TrodAll enc P W' b sp hd f.resultTypes.toList (v.resultList f.resultTypes.size) (s.fn H (ds++gs)).results [])
  (hargs:∀ sp:Nat→Bool,(∀ p∈before,sp p.block=true)→DataW.TrodAll enc P W' 0 sp true f.params.toList args.toList (s.fn H (ds++gs)).args pa)
  (hvars:∀ sp:Nat→Bool,(∀ p∈before,sp p.block=true)→DataW.TrodVars enc P W' sp s.vars (s.fn H (ds++gs)).vars pv)
  (hps:before=pa++pv) (hb:Below W.heap.size W W')
  (hok:∀ (j:Nat) (t:TypeId) (r:Value),f.resultTypes[j]?=some t→(v.resultList f.resultTypes.size)[j]?=some r→Value.okWide P W' .any 0 t r) :
  s.post enc P f apart fresh handsOn again W args v W':=by
 have hlt:∀ p∈before,p.block < W.heap.size:=fun p hp=>hW.lt p hp
 have hold:∀ p∈before,(fun b=>decide (b < W.heap.size)) p.block=true:=fun p hp=>by simpa using hlt p hp
 refine ⟨ds,gs,before,[],pa,pv,hW,hres _ _ _,hargs _ hold,hvars _ hold,World.keptBut_mono (fun p hp=>⟨hp,?_⟩) (hb.frame (·∈before)),fun _=>?_⟩
 ·rw [hps,List.mem_append] at hp
  exact Or.inr hp
 ·obtain ⟨_,_,_,_,_,hz,hn⟩:=hW
  refine ⟨hok,_,_,([]++pa)++pv,⟨[]++pa,pv,trodAll_append (hargs _ (fun _ _=>rfl)) (hres _ _ _),hvars _ (fun _ _=>rfl),rfl,?_,?_⟩,?_⟩
  ·intro b off hp
   have hin:MemPlace.cell b off∈before:=by rw [hps]; simpa using hp
   rw [hb.frozen (hlt _ hin)]
   exact hz b off hin
  ·intro ha
   have:=hn ha
   rw [hps] at this
   simpa using this
  ·intro p hp _
   rw [hps]
   simpa using hp
end
theorem trodAll_stays {H:Type} {enc:TypeId×Value→H} {P:Program} (hl:laidOutB P=true) {W W':World} (hb:Below W.heap.size W W') (sp:Nat→Bool):∀ {ts:List TypeId} {vs:List Value} {ds:List (DataW H)} {ps:List MemPlace},
  (ts.all fun t=>P.readableRec t && decide (t < P.types.size))=true→DataW.TrodAll enc P W 0 (fun _=>true) true ts vs ds ps→(∀ x∈ps,x.block < W.heap.size)→(∀ x∈ps,sp x.block=true)→DataW.TrodAll enc P W' 0 sp true ts vs ds ps
 | [],[],[],_,_,h,_,_=>h
 | t :: ts,v :: vs,d :: ds,ps,hr,h,hlt,hsp=>by
  obtain ⟨p,q,h1,h2,rfl⟩:=h
  simp only [List.all_cons,Bool.and_eq_true,decide_eq_true_eq] at hr
  refine ⟨p,q,?_,?_,rfl⟩
  ·exact WideElems.Trod_stays hl hr.1.1 hr.1.2 h1 (fun x hx=>hb.same (hlt x (List.mem_append_left _ hx))) (fun x hx=>hsp x (List.mem_append_left _ hx))
  ·exact trodAll_stays hl hb sp (by simpa using hr.2) h2 (fun x hx=>hlt x (List.mem_append_right _ hx)) (fun x hx=>hsp x (List.mem_append_right _ hx))
theorem DFits.s_inv' {d:D} (h:DFits .s d):∃ l:List UInt8,d=.ex (.string ⟨l.toArray⟩)∧l.length≤maxLen:=by cases h with | s l h=>exact ⟨l,rfl,h⟩
section top
variable {H:Type} {enc:TypeId×Value→H} {P:Program} {w:World} {held:Bool} {r:Reach} {b0:Nat} {t:TypeId} {v:Value} {d:DataW H} {ps:List MemPlace}
theorem top_agg {n:Nat} {shs:List Sh} {fs:Array Field} (hs:shape P n t=some shs) (ht:P.underlying t=some (.struct fs)) (hv:Value.okWide P w r b0 t v) (h:DataW.Trod enc P w 0 (fun _=>true) held t v d ps) :
  ∃ x:List D,x.length=shs.length∧(∀ (i:Nat) sh d,shs[i]?=some sh→x[i]?=some d→DFits sh d)∧DRep (limW w) w (.agg x) v:=by
 obtain ⟨cs,rfl,_⟩:=okWide_struct ht hv
 obtain ⟨fuel,hf⟩:=h
 obtain ⟨ds,h1,h2,h3⟩:=opens_shape (limW_lt w) n t _ hs fuel _ _ hf
 have h2':cs.size=shs.length:=by simpa [Value.cells] using h2
 refine ⟨ds,h1,fun i sh d hi hd=>?_,.agg ds cs (by omega) (fun i u hu=>?_) fun i c u hc hu=>?_⟩
 ·have hil:i < cs.size:=by have:=(List.getElem?_eq_some_iff.1 hi).1; omega
  exact (h3 i sh d cs[i] hi hd (by simp [Value.cells,hil])).1
 ·have hil:i < shs.length:=by have:=(Array.getElem?_eq_some_iff.1 hu).1; omega
  exact (h3 i shs[i] (ds[i]'(by omega)) u (List.getElem?_eq_getElem hil) (List.getElem?_eq_getElem (by omega)) (by simpa [Value.cells] using hu)).2.2
 ·have hil:i < shs.length:=by have:=(Array.getElem?_eq_some_iff.1 hu).1; omega
  exact (h3 i shs[i] c u (List.getElem?_eq_getElem hil) hc (by simpa [Value.cells] using hu)).2.1
end top
end Go.Abs
