/- Our own texts LW10 LW11 LW12 LW13 C1 C2 C3 LS of this seat in one. -/
import Derived.Test.YthoengcicaicoaaGreatDoorY4
import Derived.Deep.Slices
import Derived.ChangeArms
import Derived.ProofKit
import Derived.Below
import Derived.ChangeSame
import Derived.Test.YthoengcicaicoaaGreatDoorCards
import Derived.Test.YthoengcicaicoaaGreatDoorTie
import Derived.Lay
import Derived.LaidSub
import Derived.LaidLaws
import Derived.Lib.LaidTab
import Derived.Handy
import Derived.HandedShaped
import Derived.Shelf.Vars
set_option linter.unusedSimpArgs false
set_option linter.unusedVariables false
set_option linter.unusedSectionVars false
set_option maxRecDepth 100000
set_option maxHeartbeats 1000000
namespace Go.Proofs.YthoengcicaicoaaGreatDoor
open Go.RowKit Go.Abs Go.Proofs.Tryz
theorem c_f_r10_field {v0 : Record} {v1 : Element} {r : Record × Bool} (H : f_r10_field v0 v1 = some r) : ACall prog 124 [.agg (Record.row v0), .agg (Element.row v1)] (· = .tup [.agg (Record.row r.1), cB r.2]) := by
 refine ACall.enter' func124 rfl ntmps124 rfl fun S hS => ?_
 unfold f_r10_field at H
 refine .A 19 [.r 0, .r 1, .r 2] rfl ⟨rfl, rfl, rfl⟩ ?_
 refine .ite H rfl (fun H => ?_) (fun H => ?_)
 ·obtain ⟨y1, hy1, H⟩ := bind_some' H
  refine .A 11 [.d (.tup [cS y1.1, cI y1.2])] rfl (g_call (en 92 rfl) rfl rfl (c_f_r02_Unpack (hy1))) ?_
  refine .seqJoin (ι := List UInt8 × List UInt8) (fun ⟨o0c3j1, o0c4j1⟩ => [(2, .ref 0 0), (4, .ref 2 0), (7, .d (cI y1.2))]) (fun ⟨o0c3j1, o0c4j1⟩ => ⟨[.row 49 [.d (cI v0.source), .d (cI v0.serial), .d (cI v0.kind), .d (cS o0c3j1), .d (cS o0c4j1), .d (cI v0.start), .d (cI v0.units), .d (cI v0.call), .d (cI v0.part), .d (cB v0.last), .d (cI v0.trunk), .d (cB v0.inbound)], .row 104 [.d (cI v1.tag), .d (slOf 1 rB8 v1.value)], .row 49 [.d (cI 0), .d (cI 0), .d (cI 0), .d (cS ([] : List UInt8)), .d (cS ([] : List UInt8)), .d (cI 0), .d (cI 0), .d (cI 0), .d (cI 0), .d (cB false), .d (cI 0), .d (cB false)]], []⟩) (fun s => f_r10_field_j1 v0 y1 s.1 s.2 = some r) ?_ ?_
  ·rintro ⟨o0c3j1, o0c4j1⟩ H
   replace H : f_r10_field_j1 v0 y1 o0c3j1 o0c4j1 = some r := H
   unfold f_r10_field_j1 at H
   refine .A 8 [] rfl trivial ?_
   refine .R func124 results124 rfl ?_
   cases H
   exact .m rfl (.tupD rfl)
  ·intro hj1
   refine .A 6 [] rfl trivial ?_
   refine .ite H rfl (fun H => ?_) (fun H => ?_)
   ·refine .A 5 [] rfl trivial ?_
    exact .z (hj1 (y1.1, v0.b) H) rfl rfl
   ·refine .A 5 [] rfl trivial ?_
    exact .z (hj1 (v0.a, y1.1) H) rfl rfl
 ·obtain ⟨y2, hy2, H⟩ := bind_some' H
  refine .A 8 [.i y2] rfl (g_call (en 93 rfl) rfl rfl (c_f_r10_number (hy2))) ?_
  refine .seqJoin (ι := Int × Int × Int × Int × Int × Int × Int × Int) (fun ⟨o0c0j2, o0c1j2, o0c2j2, o0c5j2, o0c6j2, o0c7j2, o0c8j2, o0c10j2⟩ => [(2, .ref 0 0), (3, .ref 1 0), (4, .ref 2 0), (8, .d (cI y2))]) (fun ⟨o0c0j2, o0c1j2, o0c2j2, o0c5j2, o0c6j2, o0c7j2, o0c8j2, o0c10j2⟩ => ⟨[.row 49 [.d (cI o0c0j2), .d (cI o0c1j2), .d (cI o0c2j2), .d (cS v0.a), .d (cS v0.b), .d (cI o0c5j2), .d (cI o0c6j2), .d (cI o0c7j2), .d (cI o0c8j2), .d (cB v0.last), .d (cI o0c10j2), .d (cB v0.inbound)], .row 104 [.d (cI v1.tag), .d (slOf 1 rB8 v1.value)], .row 49 [.d (cI 0), .d (cI 0), .d (cI 0), .d (cS ([] : List UInt8)), .d (cS ([] : List UInt8)), .d (cI 0), .d (cI 0), .d (cI 0), .d (cI 0), .d (cB false), .d (cI 0), .d (cB false)]], []⟩) (fun s => f_r10_field_j2 v0 v1 y2 s.1 s.2.1 s.2.2.1 s.2.2.2.1 s.2.2.2.2.1 s.2.2.2.2.2.1 s.2.2.2.2.2.2.1 s.2.2.2.2.2.2.2 = some r) ?_ ?_
  ·rintro ⟨o0c0j2, o0c1j2, o0c2j2, o0c5j2, o0c6j2, o0c7j2, o0c8j2, o0c10j2⟩ H
   replace H : f_r10_field_j2 v0 v1 y2 o0c0j2 o0c1j2 o0c2j2 o0c5j2 o0c6j2 o0c7j2 o0c8j2 o0c10j2 = some r := H
   unfold f_r10_field_j2 at H
   refine .A 1 [] rfl trivial ?_
   refine .orders1 9 8 [⟨[.row 49 [.d (cI o0c0j2), .d (cI o0c1j2), .d (cI o0c2j2), .d (cS v0.a), .d (cS v0.b), .d (cI o0c5j2), .d (cI o0c6j2), .d (cI o0c7j2), .d (cI o0c8j2), .d (cB v0.last), .d (cI o0c10j2), .d (cB v0.inbound)], .row 104 [.d (cI v1.tag), .d (slOf 1 rB8 v1.value)], .row 49 [.d (cI 0), .d (cI 0), .d (cI 0), .d (cS ([] : List UInt8)), .d (cS ([] : List UInt8)), .d (cI 0), .d (cI 0), .d (cI 0), .d (cI 0), .d (cB false), .d (cI 0), .d (cB false)]], []⟩, ⟨[.row 49 [.d (cI o0c0j2), .d (cI o0c1j2), .d (cI o0c2j2), .d (cS v0.a), .d (cS v0.b), .d (cI o0c5j2), .d (cI o0c6j2), .d (cI o0c7j2), .d (cI o0c8j2), .d (cB v0.last), .d (cI o0c10j2), .d (cB v0.inbound)], .row 104 [.d (cI v1.tag), .d (slOf 1 rB8 v1.value)], .row 49 [.d (cI o0c0j2), .d (cI o0c1j2), .d (cI o0c2j2), .d (cS v0.a), .d (cS v0.b), .d (cI o0c5j2), .d (cI o0c6j2), .d (cI o0c7j2), .d (cI o0c8j2), .d (cB v0.last), .d (cI o0c10j2), .d (cB v0.inbound)]], []⟩] hMix (by kernel_rfl) (by decide) rfl ?_
   show XOps _ _ _ _ _ _ _ _ _ _ (_ :: _) _ _
   refine .g (x := .d (.agg (Record.row (⟨o0c0j2, o0c1j2, o0c2j2, v0.a, v0.b, o0c5j2, o0c6j2, o0c7j2, o0c8j2, v0.last, o0c10j2, v0.inbound⟩ : Record)))) 0 0 ⟨OpQ.g (q_loadOA one_49 sz_49 rfl rfl (Nat.le_of_ble_eq_true rfl) rfl), trivial⟩ rfl (by kernel_rfl) rfl ?_
   refine .g (x := .d (cI y2)) 0 0 ⟨OpQ.g (q_move rfl), trivial⟩ rfl (by kernel_rfl) rfl ?_
   refine .g (x := .d (cB (decide (y2 > 0)))) 0 0 ⟨OpQ.g (q_gtr rfl rfl), trivial⟩ rfl (by kernel_rfl) rfl ?_
   refine .g (x := .d (cB (decide (y2 > 0)))) 0 0 ⟨OpQ.g (q_move rfl), trivial⟩ rfl (by kernel_rfl) rfl ?_
   refine .guardG (b := decide (y2 > 0)) (x := .ref 1 0) (env' := [(3, _)]) 0 1 rfl rfl rfl ⟨.inl rfl, trivial⟩ rfl (fun hg => ⟨OpQ.g (q_fieldRef fo_104_0 rfl), OpQ.g (q_fieldRef fo_104_0 rfl), trivial⟩) rfl (by kernel_rfl) ?_
   refine .guardG (b := decide (y2 > 0)) (x := .d (cI v1.tag)) (env' := [(96, _)]) 0 1 rfl rfl rfl ⟨.inr (.inl rfl), trivial⟩ rfl (fun hg => ⟨OpQ.g (q_loadO one_3 rfl rfl rfl), OpQ.g (q_loadO one_3 rfl rfl rfl), trivial⟩) rfl (by kernel_rfl) ?_
   refine .guardG (b := decide (y2 > 0)) (x := .d (cB (decide (v1.tag ≤ 11)))) (env' := [(97, _)]) 0 1 rfl rfl rfl ⟨.inr (.inl rfl), trivial⟩ rfl (fun hg => ⟨OpQ.g (q_leq rfl rfl), OpQ.g (q_leq rfl rfl), trivial⟩) rfl (by kernel_rfl) ?_
   refine .g (x := .d (cB ((decide (y2 > 0)) && (decide (v1.tag ≤ 11))))) 0 1 ⟨OpQ.g (q_pickAndB rfl rfl rfl), OpQ.g (q_pickAndB rfl rfl rfl), trivial⟩ rfl (by kernel_rfl) rfl ?_
   refine .u 0 (u_store rfl rfl rfl rfl (Nat.le_of_ble_eq_true rfl) sz_49) rfl rfl rfl rfl ?_
   refine .nil rfl ?_
   show AOps _ _ _ _ _ _ (_ :: _) _ _ _
   refine .A 2 [] rfl trivial ?_
   refine .R func124 results124 rfl ?_
   cases H
   exact .m rfl (.tupD rfl)
  ·intro hj2
   refine .A 11 [] rfl trivial ?_
   refine .ite H rfl (fun H => ?_) (fun H => ?_)
   ·refine .A 6 [] rfl trivial ?_
    exact .z (hj2 (v0.source, v0.serial, y2, v0.start, v0.units, v0.call, v0.part, v0.trunk) H) rfl rfl
   ·refine .A 5 [] rfl trivial ?_
    refine .ite H rfl (fun H => ?_) (fun H => ?_)
    ·refine .A 6 [] rfl trivial ?_
     exact .z (hj2 (y2, v0.serial, v0.kind, v0.start, v0.units, v0.call, v0.part, v0.trunk) H) rfl rfl
    ·refine .A 5 [] rfl trivial ?_
     refine .ite H rfl (fun H => ?_) (fun H => ?_)
     ·refine .A 6 [] rfl trivial ?_
      exact .z (hj2 (v0.source, y2, v0.kind, v0.start, v0.units, v0.call, v0.part, v0.trunk) H) rfl rfl
     ·refine .A 5 [] rfl trivial ?_
      refine .ite H rfl (fun H => ?_) (fun H => ?_)
      ·refine .A 6 [] rfl trivial ?_
       exact .z (hj2 (v0.source, v0.serial, v0.kind, y2, v0.units, v0.call, v0.part, v0.trunk) H) rfl rfl
      ·refine .A 5 [] rfl trivial ?_
       refine .ite H rfl (fun H => ?_) (fun H => ?_)
       ·refine .A 6 [] rfl trivial ?_
        exact .z (hj2 (v0.source, v0.serial, v0.kind, v0.start, y2, v0.call, v0.part, v0.trunk) H) rfl rfl
       ·refine .A 5 [] rfl trivial ?_
        refine .ite H rfl (fun H => ?_) (fun H => ?_)
        ·refine .A 6 [] rfl trivial ?_
         exact .z (hj2 (v0.source, v0.serial, v0.kind, v0.start, v0.units, y2, v0.part, v0.trunk) H) rfl rfl
        ·refine .A 5 [] rfl trivial ?_
         refine .ite H rfl (fun H => ?_) (fun H => ?_)
         ·refine .A 6 [] rfl trivial ?_
          exact .z (hj2 (v0.source, v0.serial, v0.kind, v0.start, v0.units, v0.call, y2, v0.trunk) H) rfl rfl
         ·refine .A 5 [] rfl trivial ?_
          refine .ite H rfl (fun H => ?_) (fun H => ?_)
          ·refine .A 6 [] rfl trivial ?_
           exact .z (hj2 (v0.source, v0.serial, v0.kind, v0.start, v0.units, v0.call, v0.part, y2) H) rfl rfl
          ·refine .A 5 [] rfl trivial ?_
           refine .ite H rfl (fun H => ?_) (fun H => ?_)
           ·obtain ⟨hk1, H⟩ := ck_some H
            refine .A 33 [.i (Int.tmod y2 2), .i (v1.value.length : Int)] rfl ⟨rfl, rfl, rfl, rfl, s22.n rfl rfl, OpQ.g (q_remT rfl rfl hk1)⟩ ?_
            refine .R func124 results124 rfl ?_
            cases H
            exact .m rfl (.tupD rfl)
           ·refine .A 2 [] rfl trivial ?_
            exact .z (hj2 (v0.source, v0.serial, v0.kind, v0.start, v0.units, v0.call, v0.part, v0.trunk) H) rfl rfl
theorem c_f_r10_Decode {v0 : List UInt8} {r : Record × Int} (H : f_r10_Decode v0 = some r) : ACall prog 86 [slOf 1 rB8 v0] (· = .tup [.agg (Record.row r.1), cI r.2]) := by
 obtain ⟨i5, hi5, hz5, hs5, hb5⟩ := in_5
 obtain ⟨i49, hi49, hz49, hs49, hb49⟩ := in_49
 obtain ⟨i104, hi104, hz104, hs104, hb104⟩ := in_104
 refine ACall.enter' func86 rfl ntmps86 rfl fun S hS => ?_
 unfold f_r10_Decode at H
 obtain ⟨hk1, H⟩ := ck_some H
 obtain ⟨hk2, H⟩ := ck_some H
 obtain ⟨hk3, H⟩ := ck_some H
 obtain ⟨hk4, H⟩ := ck_some H
 obtain ⟨hk5, H⟩ := ck_some H
 refine .A 29 [.r 0, .p 19, .i (v0.length : Int), .i (v0.length : Int), .i ((v0.length : Int) - 2), .d (.ro (rB8 (nth v0 (Int.toNat (0))))), .i ((nth v0 (Int.toNat (0))).toNat : Int), .i (((nth v0 (Int.toNat (0))).toNat : Int) * 256), .d (.ro (rB8 (nth v0 (Int.toNat (1))))), .i ((nth v0 (Int.toNat (1))).toNat : Int), .i ((((nth v0 (Int.toNat (0))).toNat : Int) * 256) + ((nth v0 (Int.toNat (1))).toNat : Int))] rfl ⟨rfl, rfl, rfl, fun hg => g_addI rfl rfl (hk5 hg), rfl, rfl, fun hg => OpQ.g (q_conv8i (a := nth v0 (Int.toNat (1))) underlying5 underlying3 rfl), rfl, rfl, fun hg => s22.ix rfl rfl rfl (hk4 hg), rfl, fun hg => g_mulI rfl rfl (hk3 hg), rfl, fun hg => OpQ.g (q_conv8i (a := nth v0 (Int.toNat (0))) underlying5 underlying3 rfl), rfl, rfl, fun hg => s22.ix rfl rfl rfl (hk2 hg), rfl, fun hg => g_subI rfl rfl (hk1 hg), rfl, fun hg => s22.n rfl rfl, rfl, s22.n rfl rfl, (show drawB _ _ = true by kernel_rfl)⟩ ?_
 refine .ite H rfl (fun H => ?_) (fun H => ?_)
 ·refine .A 6 [.d (.agg (Record.row (⟨0, 0, 0, ([] : List UInt8), ([] : List UInt8), 0, 0, 0, 0, false, 0, false⟩ : Record)))] rfl (OpQ.g (q_buildP pl_49 hi49 hz49 rfl rfl)) ?_
  refine .R func86 results86 rfl ?_
  cases H
  exact .m rfl (.tupD rfl)
 ·obtain ⟨hk6, H⟩ := ck_some H
  obtain ⟨hk7, H⟩ := ck_some H
  obtain ⟨hk8, H⟩ := ck_some H
  obtain ⟨hk9, H⟩ := ck_some H
  obtain ⟨hk10, H⟩ := ck_some H
  refine .A 20 [.p 14, .i (v0.length : Int), .i ((v0.length : Int) - 2), .d (.ro (rB8 (nth v0 (Int.toNat (0))))), .i ((nth v0 (Int.toNat (0))).toNat : Int), .i (((nth v0 (Int.toNat (0))).toNat : Int) * 256), .d (.ro (rB8 (nth v0 (Int.toNat (1))))), .i ((nth v0 (Int.toNat (1))).toNat : Int), .i ((((nth v0 (Int.toNat (0))).toNat : Int) * 256) + ((nth v0 (Int.toNat (1))).toNat : Int))] rfl ⟨g_addI rfl rfl hk10, OpQ.g (q_conv8i (a := nth v0 (Int.toNat (1))) underlying5 underlying3 rfl), s22.ix rfl rfl rfl hk9, g_mulI rfl rfl hk8, OpQ.g (q_conv8i (a := nth v0 (Int.toNat (0))) underlying5 underlying3 rfl), s22.ix rfl rfl rfl hk7, g_subI rfl rfl hk6, s22.n rfl rfl, (show drawB _ _ = true by kernel_rfl)⟩ ?_
  refine .ite H rfl (fun H => ?_) (fun H => ?_)
  ·refine .A 6 [.d (.agg (Record.row (⟨0, 0, 0, ([] : List UInt8), ([] : List UInt8), 0, 0, 0, 0, false, 0, false⟩ : Record)))] rfl (OpQ.g (q_buildP pl_49 hi49 hz49 rfl rfl)) ?_
   refine .R func86 results86 rfl ?_
   cases H
   exact .m rfl (.tupD rfl)
  ·obtain ⟨hk11, H⟩ := ck_some H
   obtain ⟨y1, hy1, H⟩ := bind_some' H
   refine .A 18 [.d (slOf 1 rB8 (v0.drop ((2 : Int)).toNat)), .d (.tup [slOf 2 Element.row y1.1, cI y1.2])] rfl ⟨g_call (en 94 rfl) rfl rfl (c_f_r10_Elements (hy1)), OpQ.g (q_slLL (l := v0) (row := rB8) underlying22 hi5 hs5 rfl rfl rfl hk11)⟩ ?_
   refine .ite H rfl (fun H => ?_) (fun H => ?_)
   ·refine .A 7 [.d (.agg (Record.row (⟨0, 0, 0, ([] : List UInt8), ([] : List UInt8), 0, 0, 0, 0, false, 0, false⟩ : Record)))] rfl (OpQ.g (q_buildP pl_49 hi49 hz49 rfl rfl)) ?_
    refine .R func86 results86 rfl ?_
    cases H
    exact .m rfl (.tupD rfl)
   ·refine .A 13 [.d (.agg (Record.row (⟨0, 0, 0, ([] : List UInt8), ([] : List UInt8), 0, 0, 0, 0, false, 0, false⟩ : Record))), .r 1] rfl (OpQ.g (q_buildP pl_49 hi49 hz49 rfl rfl)) ?_
    refine .blockJoin2 (ι := Bool × Int × Int × Int × List UInt8 × List UInt8 × Int × Int × Int × Int × Bool × Int × Bool) (fun ⟨v7j1, o1c0j1, o1c1j1, o1c2j1, o1c3j1, o1c4j1, o1c5j1, o1c6j1, o1c7j1, o1c8j1, o1c9j1, o1c10j1, o1c11j1⟩ => [(2, .ref 0 0), (6, .ref 1 0), (7, .d (cB v7j1))]) (fun ⟨v7j1, o1c0j1, o1c1j1, o1c2j1, o1c3j1, o1c4j1, o1c5j1, o1c6j1, o1c7j1, o1c8j1, o1c9j1, o1c10j1, o1c11j1⟩ => ⟨[.row 49 [.d (cI 0), .d (cI 0), .d (cI 0), .d (cS ([] : List UInt8)), .d (cS ([] : List UInt8)), .d (cI 0), .d (cI 0), .d (cI 0), .d (cI 0), .d (cB false), .d (cI 0), .d (cB false)], .row 49 [.d (cI o1c0j1), .d (cI o1c1j1), .d (cI o1c2j1), .d (cS o1c3j1), .d (cS o1c4j1), .d (cI o1c5j1), .d (cI o1c6j1), .d (cI o1c7j1), .d (cI o1c8j1), .d (cB o1c9j1), .d (cI o1c10j1), .d (cB o1c11j1)]], []⟩) (fun s => f_r10_Decode_j1 s.1 s.2.1 s.2.2.1 s.2.2.2.1 s.2.2.2.2.1 s.2.2.2.2.2.1 s.2.2.2.2.2.2.1 s.2.2.2.2.2.2.2.1 s.2.2.2.2.2.2.2.2.1 s.2.2.2.2.2.2.2.2.2.1 s.2.2.2.2.2.2.2.2.2.2.1 s.2.2.2.2.2.2.2.2.2.2.2.1 s.2.2.2.2.2.2.2.2.2.2.2.2 = some r) ?_ ?_
    ·rintro ⟨v7j1, o1c0j1, o1c1j1, o1c2j1, o1c3j1, o1c4j1, o1c5j1, o1c6j1, o1c7j1, o1c8j1, o1c9j1, o1c10j1, o1c11j1⟩ H
     replace H : f_r10_Decode_j1 v7j1 o1c0j1 o1c1j1 o1c2j1 o1c3j1 o1c4j1 o1c5j1 o1c6j1 o1c7j1 o1c8j1 o1c9j1 o1c10j1 o1c11j1 = some r := H
     unfold f_r10_Decode_j1 at H
     refine .A 6 [] rfl trivial ?_
     refine .ite H rfl (fun H => ?_) (fun H => ?_)
     ·refine .A 6 [.d (.agg (Record.row (⟨0, 0, 0, ([] : List UInt8), ([] : List UInt8), 0, 0, 0, 0, false, 0, false⟩ : Record)))] rfl (OpQ.g (q_buildP pl_49 hi49 hz49 rfl rfl)) ?_
      refine .R func86 results86 rfl ?_
      cases H
      exact .m rfl (.tupD rfl)
     ·obtain ⟨y2, hy2, H⟩ := bind_some' H
      refine .A 13 [.i y2] rfl (g_call (en 85 rfl) rfl rfl (c_f_r09_Error (hy2))) ?_
      refine .ite H rfl (fun H => ?_) (fun H => ?_)
      ·refine .A 7 [.d (.agg (Record.row (⟨0, 0, 0, ([] : List UInt8), ([] : List UInt8), 0, 0, 0, 0, false, 0, false⟩ : Record)))] rfl (OpQ.g (q_buildP pl_49 hi49 hz49 rfl rfl)) ?_
       refine .R func86 results86 rfl ?_
       cases H
       exact .m rfl (.tupD rfl)
      ·refine .A 7 [] rfl trivial ?_
       refine .R func86 results86 rfl ?_
       cases H
       exact .m rfl (.tupD rfl)
    ·intro hj1 hj1x
     obtain ⟨n1, H⟩ := loop_some H
     refine .loop (ι := Nat × (Bool × Int × Int × Int × Int × List UInt8 × List UInt8 × Int × Int × Int × Int × Bool × Int × Bool)) (fun ⟨_, v7l1, v8l1, o1c0l1, o1c1l1, o1c2l1, o1c3l1, o1c4l1, o1c5l1, o1c6l1, o1c7l1, o1c8l1, o1c9l1, o1c10l1, o1c11l1⟩ => [(2, .ref 0 0), (4, .d (slOf 2 Element.row y1.1)), (6, .ref 1 0), (7, .d (cB v7l1)), (8, .d (cI v8l1))]) (fun ⟨_, v7l1, v8l1, o1c0l1, o1c1l1, o1c2l1, o1c3l1, o1c4l1, o1c5l1, o1c6l1, o1c7l1, o1c8l1, o1c9l1, o1c10l1, o1c11l1⟩ => ⟨[.row 49 [.d (cI 0), .d (cI 0), .d (cI 0), .d (cS ([] : List UInt8)), .d (cS ([] : List UInt8)), .d (cI 0), .d (cI 0), .d (cI 0), .d (cI 0), .d (cB false), .d (cI 0), .d (cB false)], .row 49 [.d (cI o1c0l1), .d (cI o1c1l1), .d (cI o1c2l1), .d (cS o1c3l1), .d (cS o1c4l1), .d (cI o1c5l1), .d (cI o1c6l1), .d (cI o1c7l1), .d (cI o1c8l1), .d (cB o1c9l1), .d (cI o1c10l1), .d (cB o1c11l1)]], []⟩) (fun p => iter (fun s => f_r10_Decode_l1 y1 s.1 s.2.1 s.2.2.1 s.2.2.2.1 s.2.2.2.2.1 s.2.2.2.2.2.1 s.2.2.2.2.2.2.1 s.2.2.2.2.2.2.2.1 s.2.2.2.2.2.2.2.2.1 s.2.2.2.2.2.2.2.2.2.1 s.2.2.2.2.2.2.2.2.2.2.1 s.2.2.2.2.2.2.2.2.2.2.2.1 s.2.2.2.2.2.2.2.2.2.2.2.2.1 s.2.2.2.2.2.2.2.2.2.2.2.2.2) p.1 p.2 = some r) (·.1) (n1, (true, 0, 0, 0, 0, ([] : List UInt8), ([] : List UInt8), 0, 0, 0, 0, false, 0, false)) H (.cons rfl (.rfl' _) (.cons rfl (.rfl' _) (.cons rfl (.rfl' _) (.cons rfl (.rfl' _) (.cons rfl (.rfl' _) (.nil)))))) rfl ?_
     rintro ⟨m1, v7l1, v8l1, o1c0l1, o1c1l1, o1c2l1, o1c3l1, o1c4l1, o1c5l1, o1c6l1, o1c7l1, o1c8l1, o1c9l1, o1c10l1, o1c11l1⟩ HI ih1
     obtain ⟨n1, q1, hm1, H, HK1⟩ := iter_succ HI
     clear HI
     replace H : f_r10_Decode_l1 y1 v7l1 v8l1 o1c0l1 o1c1l1 o1c2l1 o1c3l1 o1c4l1 o1c5l1 o1c6l1 o1c7l1 o1c8l1 o1c9l1 o1c10l1 o1c11l1 = some q1 := H
     unfold f_r10_Decode_l1 at H
     refine .A 8 [.i (y1.1.length : Int)] rfl (s102.n rfl rfl) ?_
     refine .ite H rfl (fun H => ?_) (fun H => ?_)
     ·refine .A 4 [] rfl trivial ?_
      obtain ⟨hk12, H⟩ := ck_some H
      obtain ⟨y3, hy3, H⟩ := bind_some' H
      refine .orders2 11 9 10 [⟨[.row 49 [.d (cI 0), .d (cI 0), .d (cI 0), .d (cS ([] : List UInt8)), .d (cS ([] : List UInt8)), .d (cI 0), .d (cI 0), .d (cI 0), .d (cI 0), .d (cB false), .d (cI 0), .d (cB false)], .row 49 [.d (cI o1c0l1), .d (cI o1c1l1), .d (cI o1c2l1), .d (cS o1c3l1), .d (cS o1c4l1), .d (cI o1c5l1), .d (cI o1c6l1), .d (cI o1c7l1), .d (cI o1c8l1), .d (cB o1c9l1), .d (cI o1c10l1), .d (cB o1c11l1)]], []⟩, ⟨[.row 49 [.d (cI 0), .d (cI 0), .d (cI 0), .d (cS ([] : List UInt8)), .d (cS ([] : List UInt8)), .d (cI 0), .d (cI 0), .d (cI 0), .d (cI 0), .d (cB false), .d (cI 0), .d (cB false)], .row 49 [.d (cI o1c0l1), .d (cI o1c1l1), .d (cI o1c2l1), .d (cS o1c3l1), .d (cS o1c4l1), .d (cI o1c5l1), .d (cI o1c6l1), .d (cI o1c7l1), .d (cI o1c8l1), .d (cB o1c9l1), .d (cI o1c10l1), .d (cB o1c11l1)], .row 49 [.d (cI 0), .d (cI 0), .d (cI 0), .d (cS ([] : List UInt8)), .d (cS ([] : List UInt8)), .d (cI 0), .d (cI 0), .d (cI 0), .d (cI 0), .d (cB false), .d (cI 0), .d (cB false)]], []⟩, ⟨[.row 49 [.d (cI 0), .d (cI 0), .d (cI 0), .d (cS ([] : List UInt8)), .d (cS ([] : List UInt8)), .d (cI 0), .d (cI 0), .d (cI 0), .d (cI 0), .d (cB false), .d (cI 0), .d (cB false)], .row 49 [.d (cI o1c0l1), .d (cI o1c1l1), .d (cI o1c2l1), .d (cS o1c3l1), .d (cS o1c4l1), .d (cI o1c5l1), .d (cI o1c6l1), .d (cI o1c7l1), .d (cI o1c8l1), .d (cB o1c9l1), .d (cI o1c10l1), .d (cB o1c11l1)], .row 49 [.d (cI y3.1.source), .d (cI y3.1.serial), .d (cI y3.1.kind), .d (cS y3.1.a), .d (cS y3.1.b), .d (cI y3.1.start), .d (cI y3.1.units), .d (cI y3.1.call), .d (cI y3.1.part), .d (cB y3.1.last), .d (cI y3.1.trunk), .d (cB y3.1.inbound)]], []⟩] hMix (by kernel_rfl) (by decide) (by decide) (by kernel_rfl) rfl ?_
      show XOps _ _ _ _ _ _ _ _ _ _ (_ :: _) _ _
      refine .g (x := .d (.agg (Record.row (⟨o1c0l1, o1c1l1, o1c2l1, o1c3l1, o1c4l1, o1c5l1, o1c6l1, o1c7l1, o1c8l1, o1c9l1, o1c10l1, o1c11l1⟩ : Record)))) 0 1 ⟨OpQ.g (q_loadOA one_49 sz_49 rfl rfl (Nat.le_of_ble_eq_true rfl) rfl), OpQ.g (q_loadOA one_49 sz_49 rfl rfl (Nat.le_of_ble_eq_true rfl) rfl), trivial⟩ rfl (by kernel_rfl) rfl ?_
      refine .g (x := .d (slOf 2 Element.row y1.1)) 0 1 ⟨OpQ.g (q_move rfl), OpQ.g (q_move rfl), trivial⟩ rfl (by kernel_rfl) rfl ?_
      refine .g (x := .d (cI v8l1)) 0 1 ⟨OpQ.g (q_move rfl), OpQ.g (q_move rfl), trivial⟩ rfl (by kernel_rfl) rfl ?_
      refine .g (x := .d (.ro (Element.row (nth y1.1 v8l1.toNat)))) 0 1 ⟨OpQ.g (q_idxL (row := Element.row) (l := y1.1) (i := v8l1) underlying102 hi104 hs104 rfl rfl rfl hk12), OpQ.g (q_idxL (row := Element.row) (l := y1.1) (i := v8l1) underlying102 hi104 hs104 rfl rfl rfl hk12), trivial⟩ rfl (by kernel_rfl) rfl ?_
      refine .g (x := .d (.agg (Element.row (nth y1.1 v8l1.toNat)))) 0 1 ⟨OpQ.g (q_loadAll one_104 sz_104 rfl rfl), OpQ.g (q_loadAll one_104 sz_104 rfl rfl), trivial⟩ rfl (by kernel_rfl) rfl ?_
      refine .g (x := .d (.tup [.agg (Record.row y3.1), cB y3.2])) 0 1 ⟨(g_call (en 95 rfl) rfl rfl (c_f_r10_field (hy3))), (g_call (en 95 rfl) rfl rfl (c_f_r10_field (hy3))), trivial⟩ rfl (by kernel_rfl) rfl ?_
      refine .g (x := .d (.tup [.agg (Record.row y3.1), cB y3.2])) 0 1 ⟨OpQ.g (q_move rfl), OpQ.g (q_move rfl), trivial⟩ rfl (by kernel_rfl) rfl ?_
      refine .g (x := .d (.agg (Record.row y3.1))) 0 1 ⟨OpQ.g (q_extract rfl rfl), OpQ.g (q_extract rfl rfl), trivial⟩ rfl (by kernel_rfl) rfl ?_
      refine .g (x := .d (cB y3.2)) 0 2 ⟨OpQ.g (q_extract rfl rfl), OpQ.g (q_extract rfl rfl), OpQ.g (q_extract rfl rfl), trivial⟩ rfl (by kernel_rfl) rfl ?_
      refine .v (x := .ref 2 0) 0 (v_alloc zr_49 rfl) rfl rfl rfl rfl ?_
      refine .u 1 (u_store rfl rfl rfl rfl (Nat.le_of_ble_eq_true rfl) sz_49) rfl rfl rfl rfl ?_
      refine .nil rfl ?_
      show AOps _ _ _ _ _ _ (_ :: _) _ _ _
      obtain ⟨hk13, H⟩ := ck_some H
      refine .A 17 [.i (v8l1 + 1)] rfl ⟨g_addI rfl rfl hk13, rfl⟩ ?_
      cases H
      exact .t 2 0 (ih1 (n1, ((v7l1 && y3.2), v8l1 + 1, y3.1.source, y3.1.serial, y3.1.kind, y3.1.a, y3.1.b, y3.1.start, y3.1.units, y3.1.call, y3.1.part, y3.1.last, y3.1.trunk, y3.1.inbound)) HK1 hm1) rfl rfl rfl rfl rfl hS rfl
     ·refine .A 1 [] rfl trivial ?_
      obtain ⟨q0, H9, hq0⟩ := map_some' H; clear H; cases hq0
      cases HK1
      have H := H9
      exact .z (hj1x (v7l1, o1c0l1, o1c1l1, o1c2l1, o1c3l1, o1c4l1, o1c5l1, o1c6l1, o1c7l1, o1c8l1, o1c9l1, o1c10l1, o1c11l1) H) rfl rfl
theorem c_f_r10_All {v0 : List UInt8} {r : (List Record) × (List Reject) × Int} (H : f_r10_All v0 = some r) : ACall prog 53 [slOf 1 rB8 v0] (· = .tup [slOf 12 Record.row r.1, slOf 4 Reject.row r.2.1, cI r.2.2]) := by
 obtain ⟨i5, hi5, hz5, hs5, hb5⟩ := in_5
 obtain ⟨i49, hi49, hz49, hs49, hb49⟩ := in_49
 obtain ⟨i64, hi64, hz64, hs64, hb64⟩ := in_64
 refine ACall.enter' func53 rfl ntmps53 rfl fun S hS => ?_
 unfold f_r10_All at H
 refine .A 23 [] rfl trivial ?_
 refine .tok (i := 5) (e := 49) (sz := 12) rfl ?_
 refine .tok (i := 6) (e := 64) (sz := 4) rfl ?_
 refine .blockJoin2 (ι := List Record × List Reject) (fun ⟨v5j1, v6j1⟩ => [(5, .tsl 12 (v5j1.map Record.row) 0), (6, .tsl 4 (v6j1.map Reject.row) 1)]) (fun ⟨v5j1, v6j1⟩ => ⟨[], [⟨49, 12, v5j1.length, none⟩, ⟨64, 4, v6j1.length, none⟩]⟩) (fun s => f_r10_All_j1 s.1 s.2 = some r) ?_ ?_
 ·rintro ⟨v5j1, v6j1⟩ H
  replace H : f_r10_All_j1 v5j1 v6j1 = some r := H
  unfold f_r10_All_j1 at H
  refine .A 8 [] rfl trivial ?_
  refine .R func53 results53 rfl ?_
  cases H
  exact .m rfl (.tupL ⟨.tsl _ _ _, .tsl _ _ _, .rfl' _, trivial⟩)
 ·intro hj1 hj1x
  obtain ⟨n1, H⟩ := loop_some H
  refine .loop (ι := Nat × (List Record × List Reject × Int × Int)) (fun ⟨_, v5l1, v6l1, v7l1, v8l1⟩ => [(0, .d (slOf 1 rB8 v0)), (5, .tsl 12 (v5l1.map Record.row) 0), (6, .tsl 4 (v6l1.map Reject.row) 1), (7, .d (cI v7l1)), (8, .d (cI v8l1))]) (fun ⟨_, v5l1, v6l1, v7l1, v8l1⟩ => ⟨[], [⟨49, 12, v5l1.length, none⟩, ⟨64, 4, v6l1.length, none⟩]⟩) (fun p => iter (fun s => f_r10_All_l1 v0 s.1 s.2.1 s.2.2.1 s.2.2.2) p.1 p.2 = some r) (·.1) (n1, (([] : List Record), ([] : List Reject), 0, 0)) H (.cons rfl (.rfl' _) (.cons rfl (.rfl' _) (.cons rfl (.rfl' _) (.cons rfl (.rfl' _) (.cons rfl (.rfl' _) (.nil)))))) rfl ?_
  rintro ⟨m1, v5l1, v6l1, v7l1, v8l1⟩ HI ih1
  obtain ⟨n1, q1, hm1, H, HK1⟩ := iter_succ HI
  clear HI
  replace H : f_r10_All_l1 v0 v5l1 v6l1 v7l1 v8l1 = some q1 := H
  unfold f_r10_All_l1 at H
  refine .A 8 [.i (v0.length : Int)] rfl (s22.n rfl rfl) ?_
  refine .ite H rfl (fun H => ?_) (fun H => ?_)
  ·refine .A 9 [] rfl trivial ?_
   refine .ite H rfl (fun H => ?_) (fun H => ?_)
   ·refine .A 6 [] rfl trivial ?_
    refine .R func53 results53 rfl ?_
    cases H
    cases HK1
    exact .m rfl (.tupL ⟨.nil 12, .nil 4, .rfl' _, trivial⟩)
   ·obtain ⟨hk1, H⟩ := ck_some H
    obtain ⟨hk2, H⟩ := ck_some H
    obtain ⟨hk3, H⟩ := ck_some H
    obtain ⟨hk4, H⟩ := ck_some H
    obtain ⟨hk5, H⟩ := ck_some H
    obtain ⟨hk6, H⟩ := ck_some H
    obtain ⟨hk7, H⟩ := ck_some H
    obtain ⟨hk8, H⟩ := ck_some H
    refine .A 32 [.p 26, .i (v7l1 + 2), .i (v0.length : Int), .i (v7l1 + 2), .d (.ro (rB8 (nth v0 v7l1.toNat))), .i ((nth v0 v7l1.toNat).toNat : Int), .i (((nth v0 v7l1.toNat).toNat : Int) * 256), .i ((v7l1 + 2) + (((nth v0 v7l1.toNat).toNat : Int) * 256)), .i (v7l1 + 1), .d (.ro (rB8 (nth v0 (v7l1 + 1).toNat))), .i ((nth v0 (v7l1 + 1).toNat).toNat : Int), .i (((v7l1 + 2) + (((nth v0 v7l1.toNat).toNat : Int) * 256)) + ((nth v0 (v7l1 + 1).toNat).toNat : Int)), .i (v0.length : Int)] rfl ⟨rfl, rfl, rfl, fun hg => s22.n rfl rfl, rfl, fun hg => g_addI rfl rfl (hk8 hg), rfl, rfl, fun hg => OpQ.g (q_conv8i (a := nth v0 (v7l1 + 1).toNat) underlying5 underlying3 rfl), rfl, rfl, fun hg => s22.ix rfl rfl rfl (hk7 hg), rfl, rfl, fun hg => g_addI rfl rfl (hk6 hg), rfl, fun hg => g_addI rfl rfl (hk5 hg), rfl, rfl, fun hg => g_mulI rfl rfl (hk4 hg), rfl, fun hg => OpQ.g (q_conv8i (a := nth v0 v7l1.toNat) underlying5 underlying3 rfl), rfl, rfl, fun hg => s22.ix rfl rfl rfl (hk3 hg), rfl, rfl, fun hg => g_addI rfl rfl (hk2 hg), rfl, s22.n rfl rfl, g_addI rfl rfl hk1, (show drawB _ _ = true by kernel_rfl)⟩ ?_
    refine .ite H rfl (fun H => ?_) (fun H => ?_)
    ·refine .A 6 [] rfl trivial ?_
     refine .R func53 results53 rfl ?_
     cases H
     cases HK1
     exact .m rfl (.tupL ⟨.nil 12, .nil 4, .rfl' _, trivial⟩)
    ·obtain ⟨hk9, H⟩ := ck_some H
     obtain ⟨hk10, H⟩ := ck_some H
     obtain ⟨hk11, H⟩ := ck_some H
     obtain ⟨hk12, H⟩ := ck_some H
     obtain ⟨hk13, H⟩ := ck_some H
     obtain ⟨hk14, H⟩ := ck_some H
     obtain ⟨hk15, H⟩ := ck_some H
     refine .A 22 [.p 17, .i (v7l1 + 2), .d (.ro (rB8 (nth v0 v7l1.toNat))), .i ((nth v0 v7l1.toNat).toNat : Int), .i (((nth v0 v7l1.toNat).toNat : Int) * 256), .i ((v7l1 + 2) + (((nth v0 v7l1.toNat).toNat : Int) * 256)), .i (v7l1 + 1), .d (.ro (rB8 (nth v0 (v7l1 + 1).toNat))), .i ((nth v0 (v7l1 + 1).toNat).toNat : Int), .i (((v7l1 + 2) + (((nth v0 v7l1.toNat).toNat : Int) * 256)) + ((nth v0 (v7l1 + 1).toNat).toNat : Int))] rfl ⟨g_addI rfl rfl hk15, OpQ.g (q_conv8i (a := nth v0 (v7l1 + 1).toNat) underlying5 underlying3 rfl), s22.ix rfl rfl rfl hk14, g_addI rfl rfl hk13, g_addI rfl rfl hk12, g_mulI rfl rfl hk11, OpQ.g (q_conv8i (a := nth v0 v7l1.toNat) underlying5 underlying3 rfl), s22.ix rfl rfl rfl hk10, g_addI rfl rfl hk9, (show drawB _ _ = true by kernel_rfl)⟩ ?_
     refine .seqJoin (ι := List Record × List Reject × Int × Int × Int × List UInt8 × List UInt8 × Int × Int × Int × Int × Bool × Int × Bool) (fun ⟨v5j2, v6j2, o0c0j2, o0c1j2, o0c2j2, o0c3j2, o0c4j2, o0c5j2, o0c6j2, o0c7j2, o0c8j2, o0c9j2, o0c10j2, o0c11j2⟩ => [(0, .d (slOf 1 rB8 v0)), (5, .tsl 12 (v5j2.map Record.row) 0), (6, .tsl 4 (v6j2.map Reject.row) 1), (8, .d (cI v8l1)), (9, .d (cI (((v7l1 + 2) + (((nth v0 v7l1.toNat).toNat : Int) * 256)) + ((nth v0 (v7l1 + 1).toNat).toNat : Int))))]) (fun ⟨v5j2, v6j2, o0c0j2, o0c1j2, o0c2j2, o0c3j2, o0c4j2, o0c5j2, o0c6j2, o0c7j2, o0c8j2, o0c9j2, o0c10j2, o0c11j2⟩ => ⟨[.row 49 [.d (cI o0c0j2), .d (cI o0c1j2), .d (cI o0c2j2), .d (cS o0c3j2), .d (cS o0c4j2), .d (cI o0c5j2), .d (cI o0c6j2), .d (cI o0c7j2), .d (cI o0c8j2), .d (cB o0c9j2), .d (cI o0c10j2), .d (cB o0c11j2)]], [⟨49, 12, v5j2.length, none⟩, ⟨64, 4, v6j2.length, none⟩]⟩) (fun s => f_r10_All_j2 v0 v7l1 v8l1 s.1 s.2.1 s.2.2.1 s.2.2.2.1 s.2.2.2.2.1 s.2.2.2.2.2.1 s.2.2.2.2.2.2.1 s.2.2.2.2.2.2.2.1 s.2.2.2.2.2.2.2.2.1 s.2.2.2.2.2.2.2.2.2.1 s.2.2.2.2.2.2.2.2.2.2.1 s.2.2.2.2.2.2.2.2.2.2.2.1 s.2.2.2.2.2.2.2.2.2.2.2.2.1 s.2.2.2.2.2.2.2.2.2.2.2.2.2 = some q1) ?_ ?_
     ·rintro ⟨v5j2, v6j2, o0c0j2, o0c1j2, o0c2j2, o0c3j2, o0c4j2, o0c5j2, o0c6j2, o0c7j2, o0c8j2, o0c9j2, o0c10j2, o0c11j2⟩ H
      replace H : f_r10_All_j2 v0 v7l1 v8l1 v5j2 v6j2 o0c0j2 o0c1j2 o0c2j2 o0c3j2 o0c4j2 o0c5j2 o0c6j2 o0c7j2 o0c8j2 o0c9j2 o0c10j2 o0c11j2 = some q1 := H
      unfold f_r10_All_j2 at H
      obtain ⟨hk16, H⟩ := ck_some H
      refine .A 10 [.i (v8l1 + 1)] rfl (g_addI rfl rfl hk16) ?_
      cases H
      exact .t 0 2 (ih1 (n1, (v5j2, v6j2, ((v7l1 + 2) + (((nth v0 v7l1.toNat).toNat : Int) * 256)) + ((nth v0 (v7l1 + 1).toNat).toNat : Int), v8l1 + 1)) HK1 hm1) rfl rfl rfl rfl rfl hS rfl
     ·intro hj2
      obtain ⟨hk17, H⟩ := ck_some H
      obtain ⟨y1, hy1, H⟩ := bind_some' H
      refine .A 19 [.d (slOf 1 rB8 ((v0.take (((v7l1 + 2) + (((nth v0 v7l1.toNat).toNat : Int) * 256)) + ((nth v0 (v7l1 + 1).toNat).toNat : Int)).toNat).drop v7l1.toNat)), .d (.tup [.agg (Record.row y1.1), cI y1.2]), .r 0] rfl ⟨g_call (en 96 rfl) rfl rfl (c_f_r10_Decode (hy1)), OpQ.g (q_slLHL (l := v0) (row := rB8) underlying22 hi5 hs5 rfl rfl rfl rfl hk17)⟩ ?_
      refine .ite H rfl (fun H => ?_) (fun H => ?_)
      ·obtain ⟨hk18, H⟩ := ck_some H
       refine .A 7 [.d (slOf 12 Record.row ([y1.1] : List Record)), .a 0 49 12 Record.row (v5l1 ++ ([y1.1] : List Record))] rfl ⟨s29.a rfl rfl rfl rfl hk18, g_buildSlice1 underlying29 hi49 hs49 hz49 rfl rfl rfl rfl rfl⟩ ?_
       exact .z (hj2 (v5l1 ++ ([y1.1] : List Record), v6l1, y1.1.source, y1.1.serial, y1.1.kind, y1.1.a, y1.1.b, y1.1.start, y1.1.units, y1.1.call, y1.1.part, y1.1.last, y1.1.trunk, y1.1.inbound) H) rfl rfl
      ·obtain ⟨hk19, H⟩ := ck_some H
       refine .A 9 [.d (.agg (Reject.row (⟨0, 0, v8l1, y1.2⟩ : Reject))), .d (slOf 4 Reject.row ([(⟨0, 0, v8l1, y1.2⟩ : Reject)] : List Reject)), .a 1 64 4 Reject.row (v6l1 ++ ([(⟨0, 0, v8l1, y1.2⟩ : Reject)] : List Reject))] rfl ⟨s32.a rfl rfl rfl rfl hk19, g_buildSlice1 underlying32 hi64 hs64 hz64 rfl rfl rfl rfl rfl, OpQ.g (q_buildP pl_64 hi64 hz64 rfl rfl)⟩ ?_
       exact .z (hj2 (v5l1, v6l1 ++ ([(⟨0, 0, v8l1, y1.2⟩ : Reject)] : List Reject), y1.1.source, y1.1.serial, y1.1.kind, y1.1.a, y1.1.b, y1.1.start, y1.1.units, y1.1.call, y1.1.part, y1.1.last, y1.1.trunk, y1.1.inbound) H) rfl rfl
  ·refine .A 1 [] rfl trivial ?_
   obtain ⟨q0, H9, hq0⟩ := map_some' H; clear H; cases hq0
   cases HK1
   have H := H9
   exact .z (hj1x (v5l1, v6l1) H) rfl rfl
theorem c_f_r11_sum {v0b : List UInt8} {r : UInt8} (H : f_r11_sum v0b = some r) : ACall prog 71 [slOf 1 rB8 v0b] (· = cU8 r) := by
 refine ACall.enter' func71 rfl ntmps71 rfl fun S hS => ?_
 unfold f_r11_sum at H
 refine .A 14 [] rfl trivial ?_
 obtain ⟨n1, H⟩ := loop_some H
 refine .loop (ι := Nat × (Int × Int)) (fun ⟨_, v3nl1, v4il1⟩ => [(0, .d (slOf 1 rB8 v0b)), (3, .d (cI v3nl1)), (4, .d (cI v4il1))]) (fun ⟨_, v3nl1, v4il1⟩ => ⟨[], []⟩) (fun p => iter (fun s => f_r11_sum_l1 v0b s.1 s.2) p.1 p.2 = some r) (·.1) (n1, (0, 0)) H (.cons rfl (.rfl' _) (.cons rfl (.rfl' _) (.cons rfl (.rfl' _) (.nil)))) rfl ?_
 rintro ⟨m1, v3nl1, v4il1⟩ HI ih1
 obtain ⟨n1, q1, hm1, H, HK1⟩ := iter_succ HI
 clear HI
 replace H : f_r11_sum_l1 v0b v3nl1 v4il1 = some q1 := H
 unfold f_r11_sum_l1 at H
 refine .A 8 [.i (v0b.length : Int)] rfl (s22.n rfl rfl) ?_
 refine .ite H rfl (fun H => ?_) (fun H => ?_)
 ·obtain ⟨hk1, H⟩ := ck_some H
  obtain ⟨hk2, H⟩ := ck_some H
  obtain ⟨hk3, H⟩ := ck_some H
  obtain ⟨hk4, H⟩ := ck_some H
  refine .A 20 [.d (.ro (rB8 (nth v0b v4il1.toNat))), .i ((nth v0b v4il1.toNat).toNat : Int), .i (v3nl1 + ((nth v0b v4il1.toNat).toNat : Int)), .i (Int.tmod (v3nl1 + ((nth v0b v4il1.toNat).toNat : Int)) 256), .i (v4il1 + 1)] rfl ⟨g_addI rfl rfl hk4, OpQ.g (q_remT rfl rfl hk3), g_addI rfl rfl hk2, OpQ.g (q_conv8i (a := nth v0b v4il1.toNat) underlying5 underlying3 rfl), s22.ix rfl rfl rfl hk1⟩ ?_
  cases H
  exact .z (ih1 (n1, (Int.tmod (v3nl1 + ((nth v0b v4il1.toNat).toNat : Int)) 256, v4il1 + 1)) HK1 hm1) rfl rfl
 ·refine .A 7 [.c (UInt8.ofInt v3nl1)] rfl (OpQ.g (q_conv8 underlying3 underlying5 rfl)) ?_
  refine .R func71 results71 rfl ?_
  cases H
  cases HK1
  exact .m rfl (.rfl' _)
theorem c_f_r11_Decimal {v0b : List UInt8} {r : Int × Int} (H : f_r11_Decimal v0b = some r) : ACall prog 125 [slOf 1 rB8 v0b] (· = .tup [cI r.1, cI r.2]) := by
 refine ACall.enter' func125 rfl ntmps125 rfl fun S hS => ?_
 unfold f_r11_Decimal at H
 refine .A 17 [.i (v0b.length : Int), .i (v0b.length : Int)] rfl ⟨rfl, rfl, fun hg => s22.n rfl rfl, rfl, s22.n rfl rfl⟩ ?_
 refine .ite H rfl (fun H => ?_) (fun H => ?_)
 ·refine .A 5 [] rfl trivial ?_
  refine .R func125 results125 rfl ?_
  cases H
  exact .m rfl (.tupD rfl)
 ·refine .A 11 [] rfl trivial ?_
  obtain ⟨n1, H⟩ := loop_some H
  refine .loop (ι := Nat × (Int × Int)) (fun ⟨_, v4nl1, v5il1⟩ => [(0, .d (slOf 1 rB8 v0b)), (4, .d (cI v4nl1)), (5, .d (cI v5il1))]) (fun ⟨_, v4nl1, v5il1⟩ => ⟨[], []⟩) (fun p => iter (fun s => f_r11_Decimal_l1 v0b s.1 s.2) p.1 p.2 = some r) (·.1) (n1, (0, 0)) H (.cons rfl (.rfl' _) (.cons rfl (.rfl' _) (.cons rfl (.rfl' _) (.nil)))) rfl ?_
  rintro ⟨m1, v4nl1, v5il1⟩ HI ih1
  obtain ⟨n1, q1, hm1, H, HK1⟩ := iter_succ HI
  clear HI
  replace H : f_r11_Decimal_l1 v0b v4nl1 v5il1 = some q1 := H
  unfold f_r11_Decimal_l1 at H
  refine .A 8 [.i (v0b.length : Int)] rfl (s22.n rfl rfl) ?_
  refine .ite H rfl (fun H => ?_) (fun H => ?_)
  ·obtain ⟨hk1, H⟩ := ck_some H
   obtain ⟨hk2, H⟩ := ck_some H
   obtain ⟨hk3, H⟩ := ck_some H
   obtain ⟨hk4, H⟩ := ck_some H
   refine .A 21 [.d (.ro (rB8 (nth v0b v5il1.toNat))), .c ((nth v0b v5il1.toNat) / 16), .b (decide (((nth v0b v5il1.toNat) / 16) > 9)), .d (.ro (rB8 (nth v0b v5il1.toNat))), .c ((nth v0b v5il1.toNat) % 16), .b (decide (((nth v0b v5il1.toNat) % 16) > 9))] rfl ⟨rfl, fun hg => OpQ.g (q8_gtr (a := (nth v0b v5il1.toNat) % 16) (b := 9) rfl rfl), rfl, fun hg => OpQ.g (q8_rem (a := nth v0b v5il1.toNat) (b := 16) rfl rfl (hk4 hg)), rfl, rfl, fun hg => s22.ix rfl rfl rfl (hk3 hg), rfl, rfl, OpQ.g (q8_gtr (a := (nth v0b v5il1.toNat) / 16) (b := 9) rfl rfl), OpQ.g (q8_quo (a := nth v0b v5il1.toNat) (b := 16) rfl rfl hk2), s22.ix rfl rfl rfl hk1⟩ ?_
   refine .ite H rfl (fun H => ?_) (fun H => ?_)
   ·refine .A 5 [] rfl trivial ?_
    refine .R func125 results125 rfl ?_
    cases H
    cases HK1
    exact .m rfl (.tupD rfl)
   ·obtain ⟨hk5, H⟩ := ck_some H
    obtain ⟨hk6, H⟩ := ck_some H
    obtain ⟨hk7, H⟩ := ck_some H
    obtain ⟨hk8, H⟩ := ck_some H
    obtain ⟨hk9, H⟩ := ck_some H
    obtain ⟨hk10, H⟩ := ck_some H
    obtain ⟨hk11, H⟩ := ck_some H
    obtain ⟨hk12, H⟩ := ck_some H
    obtain ⟨hk13, H⟩ := ck_some H
    refine .A 28 [.p 18, .i (v4nl1 * 100), .d (.ro (rB8 (nth v0b v5il1.toNat))), .c ((nth v0b v5il1.toNat) / 16), .i (((nth v0b v5il1.toNat) / 16).toNat : Int), .i ((((nth v0b v5il1.toNat) / 16).toNat : Int) * 10), .i ((v4nl1 * 100) + ((((nth v0b v5il1.toNat) / 16).toNat : Int) * 10)), .d (.ro (rB8 (nth v0b v5il1.toNat))), .c ((nth v0b v5il1.toNat) % 16), .i (((nth v0b v5il1.toNat) % 16).toNat : Int), .i (((v4nl1 * 100) + ((((nth v0b v5il1.toNat) / 16).toNat : Int) * 10)) + (((nth v0b v5il1.toNat) % 16).toNat : Int)), .i (v5il1 + 1)] rfl ⟨g_addI rfl rfl hk13, g_addI rfl rfl hk12, OpQ.g (q_conv8i (a := (nth v0b v5il1.toNat) % 16) underlying5 underlying3 rfl), OpQ.g (q8_rem (a := nth v0b v5il1.toNat) (b := 16) rfl rfl hk11), s22.ix rfl rfl rfl hk10, g_addI rfl rfl hk9, g_mulI rfl rfl hk8, OpQ.g (q_conv8i (a := (nth v0b v5il1.toNat) / 16) underlying5 underlying3 rfl), OpQ.g (q8_quo (a := nth v0b v5il1.toNat) (b := 16) rfl rfl hk7), s22.ix rfl rfl rfl hk6, g_mulI rfl rfl hk5, (show drawB _ _ = true by kernel_rfl)⟩ ?_
    cases H
    exact .z (ih1 (n1, (((v4nl1 * 100) + ((((nth v0b v5il1.toNat) / 16).toNat : Int) * 10)) + (((nth v0b v5il1.toNat) % 16).toNat : Int), v5il1 + 1)) HK1 hm1) rfl rfl
  ·refine .A 7 [] rfl trivial ?_
   refine .R func125 results125 rfl ?_
   cases H
   cases HK1
   exact .m rfl (.tupD rfl)
theorem c_f_r11_text {v0b : List UInt8} {r : (List UInt8) × Bool} (H : f_r11_text v0b = some r) : ACall prog 126 [slOf 1 rB8 v0b] (· = .tup [cS r.1, cB r.2]) := by
 obtain ⟨i5, hi5, hz5, hs5, hb5⟩ := in_5
 refine ACall.enter' func126 rfl ntmps126 rfl fun S hS => ?_
 unfold f_r11_text at H
 obtain ⟨hk1, H⟩ := ck_some H
 obtain ⟨hk2, H⟩ := ck_some H
 refine .A 21 [.d (.ro (rB8 (nth v0b (Int.toNat (0))))), .c ((nth v0b (Int.toNat (0))) / 16), .i (((nth v0b (Int.toNat (0))) / 16).toNat : Int)] rfl ⟨OpQ.g (q_conv8i (a := (nth v0b (Int.toNat (0))) / 16) underlying5 underlying3 rfl), OpQ.g (q8_quo (a := nth v0b (Int.toNat (0))) (b := 16) rfl rfl hk2), s22.ix rfl rfl rfl hk1⟩ ?_
 obtain ⟨n1, H⟩ := loop_some H
 refine .loop (ι := Nat × (List UInt8 × Int)) (fun ⟨_, v5sl1, v6kl1⟩ => [(0, .d (slOf 1 rB8 v0b)), (4, .d (cI (((nth v0b (Int.toNat (0))) / 16).toNat : Int))), (5, .d (cS v5sl1)), (6, .d (cI v6kl1))]) (fun ⟨_, v5sl1, v6kl1⟩ => ⟨[], []⟩) (fun p => iter (fun s => f_r11_text_l1 v0b s.1 s.2) p.1 p.2 = some r) (·.1) (n1, (([] : List UInt8), 1)) H (.cons rfl (.rfl' _) (.cons rfl (.rfl' _) (.cons rfl (.rfl' _) (.cons rfl (.rfl' _) (.nil))))) rfl ?_
 rintro ⟨m1, v5sl1, v6kl1⟩ HI ih1
 obtain ⟨n1, q1, hm1, H, HK1⟩ := iter_succ HI
 clear HI
 replace H : f_r11_text_l1 v0b v5sl1 v6kl1 = some q1 := H
 unfold f_r11_text_l1 at H
 refine .A 6 [] rfl trivial ?_
 refine .ite H rfl (fun H => ?_) (fun H => ?_)
 ·obtain ⟨hk3, H⟩ := ck_some H
  obtain ⟨hk4, H⟩ := ck_some H
  obtain ⟨hk5, H⟩ := ck_some H
  refine .A 13 [.i (Int.tdiv v6kl1 2), .d (.ro (rB8 (nth v0b (Int.tdiv v6kl1 2).toNat))), .c ((nth v0b (Int.tdiv v6kl1 2).toNat) / 16)] rfl ⟨OpQ.g (q8_quo (a := nth v0b (Int.tdiv v6kl1 2).toNat) (b := 16) rfl rfl hk5), s22.ix rfl rfl rfl hk4, OpQ.g (q_quoT rfl rfl hk3)⟩ ?_
  refine .seqJoin (ι := UInt8) (fun v7gj1 => [(0, .d (slOf 1 rB8 v0b)), (4, .d (cI (((nth v0b (Int.toNat (0))) / 16).toNat : Int))), (5, .d (cS v5sl1)), (6, .d (cI v6kl1)), (7, .d (cU8 v7gj1))]) (fun v7gj1 => ⟨[], []⟩) (fun s => f_r11_text_j1 v0b v5sl1 v6kl1 s = some q1) ?_ ?_
  ·rintro v7gj1 H
   replace H : f_r11_text_j1 v0b v5sl1 v6kl1 v7gj1 = some q1 := H
   unfold f_r11_text_j1 at H
   refine .B 17 [.b (decide (v7gj1 > 9)), .b (v7gj1 != 0)] rfl ⟨fun hg => OpQ.g (q8_neq (a := v7gj1) (b := 0) rfl rfl), rfl, rfl, rfl, rfl, rfl, fun hg => OpQ.g (q8_gtr (a := v7gj1) (b := 9) rfl rfl), rfl⟩ ?_
   refine .guardG (env' := [(43, _), (45, _)]) rfl rfl rfl ⟨.inr (.inl rfl), ⟨.inr (.inr ⟨_, _, rfl, rfl⟩), trivial⟩⟩ rfl (fun hg => OpQ.g (q_pickAndB rfl rfl rfl)) ?_
   refine .A 2 [] rfl rfl ?_
   refine .ite H rfl (fun H => ?_) (fun H => ?_)
   ·refine .A 5 [] rfl trivial ?_
    refine .R func126 results126 rfl ?_
    cases H
    cases HK1
    exact .m rfl (.tupD rfl)
   ·refine .A 7 [] rfl trivial ?_
    refine .ite H rfl (fun H => ?_) (fun H => ?_)
    ·obtain ⟨hk6, H⟩ := ck_some H
     obtain ⟨hk7, H⟩ := ck_some H
     refine .A 15 [.c (48 + v7gj1), .d (slOf 1 rB8 ([48 + v7gj1] : List UInt8)), .s ([48 + v7gj1] : List UInt8), .s (v5sl1 ++ ([48 + v7gj1] : List UInt8)), .i (v6kl1 + 1)] rfl ⟨g_addI rfl rfl hk7, OpQ.g (q_sadd rfl rfl hk6), OpQ.g (q_bytesStrL (a := ([48 + v7gj1] : List UInt8)) underlying22 underlying5 underlying9 rfl rfl), g_buildSlice1 underlying22 hi5 hs5 hz5 rfl rfl rfl rfl rfl, OpQ.g (q8_add (a := 48) (b := v7gj1) rfl rfl)⟩ ?_
     cases H
     exact .z (ih1 (n1, (v5sl1 ++ ([48 + v7gj1] : List UInt8), v6kl1 + 1)) HK1 hm1) rfl rfl
    ·obtain ⟨hk8, H⟩ := ck_some H
     refine .A 7 [.i (v6kl1 + 1)] rfl (g_addI rfl rfl hk8) ?_
     cases H
     exact .z (ih1 (n1, (v5sl1, v6kl1 + 1)) HK1 hm1) rfl rfl
  ·intro hj1
   obtain ⟨hk9, H⟩ := ck_some H
   refine .A 6 [.i (Int.tmod v6kl1 2)] rfl (OpQ.g (q_remT rfl rfl hk9)) ?_
   refine .ite H rfl (fun H => ?_) (fun H => ?_)
   ·obtain ⟨hk10, H⟩ := ck_some H
    obtain ⟨hk11, H⟩ := ck_some H
    obtain ⟨hk12, H⟩ := ck_some H
    refine .A 9 [.i (Int.tdiv v6kl1 2), .d (.ro (rB8 (nth v0b (Int.tdiv v6kl1 2).toNat))), .c ((nth v0b (Int.tdiv v6kl1 2).toNat) % 16)] rfl ⟨OpQ.g (q8_rem (a := nth v0b (Int.tdiv v6kl1 2).toNat) (b := 16) rfl rfl hk12), s22.ix rfl rfl rfl hk11, OpQ.g (q_quoT rfl rfl hk10)⟩ ?_
    exact .z (hj1 ((nth v0b (Int.tdiv v6kl1 2).toNat) % 16) H) rfl rfl
   ·refine .A 1 [] rfl trivial ?_
    exact .z (hj1 ((nth v0b (Int.tdiv v6kl1 2).toNat) / 16) H) rfl rfl
 ·refine .A 7 [] rfl trivial ?_
  refine .R func126 results126 rfl ?_
  cases H
  cases HK1
  exact .m rfl (.tupD rfl)
theorem c_f_r11_Decode {v0 : List UInt8} {r : Record × Int} (H : f_r11_Decode v0 = some r) : ACall prog 87 [slOf 1 rB8 v0] (· = .tup [.agg (Record.row r.1), cI r.2]) := by
 obtain ⟨i3, hi3, hz3, hs3, hb3⟩ := in_3
 obtain ⟨i5, hi5, hz5, hs5, hb5⟩ := in_5
 obtain ⟨i49, hi49, hz49, hs49, hb49⟩ := in_49
 refine ACall.enter' func87 rfl ntmps87 rfl fun S hS => ?_
 unfold f_r11_Decode at H
 refine .A 16 [.r 0, .r 1, .i (v0.length : Int)] rfl (s22.n rfl rfl) ?_
 refine .ite H rfl (fun H => ?_) (fun H => ?_)
 ·refine .A 6 [] rfl trivial ?_
  refine .R func87 results87 rfl ?_
  cases H
  exact .m rfl (.tupD rfl)
 ·refine .A 8 [.i (v0.length : Int)] rfl (s22.n rfl rfl) ?_
  refine .ite H rfl (fun H => ?_) (fun H => ?_)
  ·refine .A 6 [] rfl trivial ?_
   refine .R func87 results87 rfl ?_
   cases H
   exact .m rfl (.tupD rfl)
  ·obtain ⟨hk1, H⟩ := ck_some H
   obtain ⟨y1, hy1, H⟩ := bind_some' H
   obtain ⟨hk2, H⟩ := ck_some H
   refine .A 13 [.p 7, .d (slOf 1 rB8 (v0.take ((44 : Int)).toNat)), .c y1, .d (.ro (rB8 (nth v0 (Int.toNat (44))))), .b (y1 != (nth v0 (Int.toNat (44))))] rfl ⟨OpQ.g (q8_neq (a := y1) (b := nth v0 (Int.toNat (44))) rfl rfl), s22.ix rfl rfl rfl hk2, g_call (en 97 rfl) rfl rfl (c_f_r11_sum (hy1)), OpQ.g (q_slHL (l := v0) (row := rB8) underlying22 hi5 hs5 rfl rfl rfl hk1), (show drawB _ _ = true by kernel_rfl)⟩ ?_
   refine .ite H rfl (fun H => ?_) (fun H => ?_)
   ·refine .A 6 [] rfl trivial ?_
    refine .R func87 results87 rfl ?_
    cases H
    exact .m rfl (.tupD rfl)
   ·obtain ⟨hk3, H⟩ := ck_some H
    obtain ⟨hk4, H⟩ := ck_some H
    refine .A 29 [.d (slOf 1 rI ([0, 1, 23, 29, 36, 41, 42] : List Int)), .d (slOf 1 rI ([1, 6, 29, 36, 41, 42, 44] : List Int)), .d (.ro (rB8 (nth v0 (Int.toNat (6))))), .c ((nth v0 (Int.toNat (6))) % 16), .b (decide (((nth v0 (Int.toNat (6))) % 16) ≤ 3))] rfl ⟨OpQ.g (q8_leq (a := (nth v0 (Int.toNat (6))) % 16) (b := 3) rfl rfl), OpQ.g (q8_rem (a := nth v0 (Int.toNat (6))) (b := 16) rfl rfl hk4), s22.ix rfl rfl rfl hk3, g_buildSliceN (n := 7) (rows := ([1, 6, 29, 36, 41, 42, 44] : List Int).map rI) underlying68 hi3 hs3 hz3 rfl rfl rfl (by kernel_rfl) rfl, g_buildSliceN (n := 7) (rows := ([0, 1, 23, 29, 36, 41, 42] : List Int).map rI) underlying68 hi3 hs3 hz3 rfl rfl rfl (by kernel_rfl) rfl⟩ ?_
    refine .tok (i := 7) (e := 3) (sz := 1) rfl ?_
    refine .blockJoin2 (ι := List Int × Bool) (fun ⟨v7j1, v8j1⟩ => [(0, .d (slOf 1 rB8 v0)), (2, .ref 0 0), (4, .ref 1 0), (7, .tsl 1 (v7j1.map rI) 0), (8, .d (cB v8j1))]) (fun ⟨v7j1, v8j1⟩ => ⟨[.row 49 [.d (cI 0), .d (cI 0), .d (cI 0), .d (cS ([] : List UInt8)), .d (cS ([] : List UInt8)), .d (cI 0), .d (cI 0), .d (cI 0), .d (cI 0), .d (cB false), .d (cI 0), .d (cB false)], .row 49 [.d (cI 0), .d (cI 0), .d (cI 0), .d (cS ([] : List UInt8)), .d (cS ([] : List UInt8)), .d (cI 0), .d (cI 0), .d (cI 0), .d (cI 0), .d (cB false), .d (cI 0), .d (cB false)]], [⟨3, 1, v7j1.length, none⟩]⟩) (fun s => f_r11_Decode_j1 v0 s.1 s.2 = some r) ?_ ?_
    ·rintro ⟨v7j1, v8j1⟩ H
     replace H : f_r11_Decode_j1 v0 v7j1 v8j1 = some r := H
     unfold f_r11_Decode_j1 at H
     obtain ⟨hk5, H⟩ := ck_some H
     obtain ⟨y2, hy2, H⟩ := bind_some' H
     obtain ⟨hk6, H⟩ := ck_some H
     obtain ⟨y3, hy3, H⟩ := bind_some' H
     refine .A 36 [.d (slOf 1 rB8 ((v0.take ((15 : Int)).toNat).drop ((7 : Int)).toNat)), .d (.tup [cS y2.1, cB y2.2]), .d (slOf 1 rB8 ((v0.take ((23 : Int)).toNat).drop ((15 : Int)).toNat)), .d (.tup [cS y3.1, cB y3.2])] rfl ⟨rfl, rfl, rfl, rfl, g_call (en 98 rfl) rfl rfl (c_f_r11_text (hy3)), OpQ.g (q_slLHL (l := v0) (row := rB8) underlying22 hi5 hs5 rfl rfl rfl rfl hk6), g_call (en 98 rfl) rfl rfl (c_f_r11_text (hy2)), OpQ.g (q_slLHL (l := v0) (row := rB8) underlying22 hi5 hs5 rfl rfl rfl rfl hk5)⟩ ?_
     refine .ite H rfl (fun H => ?_) (fun H => ?_)
     ·refine .A 6 [] rfl trivial ?_
      refine .R func87 results87 rfl ?_
      cases H
      exact .m rfl (.tupD rfl)
     ·refine .A 2 [] rfl trivial ?_
      obtain ⟨hk7, H⟩ := ck_some H
      obtain ⟨hk8, H⟩ := ck_some H
      obtain ⟨hk9, H⟩ := ck_some H
      obtain ⟨hk10, H⟩ := ck_some H
      obtain ⟨hk11, H⟩ := ck_some H
      obtain ⟨hk12, H⟩ := ck_some H
      obtain ⟨hk13, H⟩ := ck_some H
      obtain ⟨hk14, H⟩ := ck_some H
      obtain ⟨hk15, H⟩ := ck_some H
      obtain ⟨hk16, H⟩ := ck_some H
      obtain ⟨hk17, H⟩ := ck_some H
      obtain ⟨hk18, H⟩ := ck_some H
      obtain ⟨hk19, H⟩ := ck_some H
      refine .orders1 40 39 [⟨[.row 49 [.d (cI 0), .d (cI 0), .d (cI 0), .d (cS ([] : List UInt8)), .d (cS ([] : List UInt8)), .d (cI 0), .d (cI 0), .d (cI 0), .d (cI 0), .d (cB false), .d (cI 0), .d (cB false)], .row 49 [.d (cI 0), .d (cI 0), .d (cI 0), .d (cS ([] : List UInt8)), .d (cS ([] : List UInt8)), .d (cI 0), .d (cI 0), .d (cI 0), .d (cI 0), .d (cB false), .d (cI 0), .d (cB false)]], [⟨3, 1, v7j1.length, none⟩]⟩, ⟨[.row 49 [.d (cI 0), .d (cI 0), .d (cI 0), .d (cS ([] : List UInt8)), .d (cS ([] : List UInt8)), .d (cI 0), .d (cI 0), .d (cI 0), .d (cI 0), .d (cB false), .d (cI 0), .d (cB false)], .row 49 [.d (cI 0), .d (cI 0), .d (cI 0), .d (cS ([] : List UInt8)), .d (cS ([] : List UInt8)), .d (cI 0), .d (cI 0), .d (cI 0), .d (cI 0), .d (cB false), .d (cI 0), .d (cB false)], .row 49 [.d (cI 0), .d (cI 0), .d (cI 0), .d (cS ([] : List UInt8)), .d (cS ([] : List UInt8)), .d (cI 0), .d (cI 0), .d (cI 0), .d (cI 0), .d (cB false), .d (cI 0), .d (cB false)]], [⟨3, 1, v7j1.length, none⟩]⟩] hMix (by kernel_rfl) (by decide) rfl ?_
      show XOps _ _ _ _ _ _ _ _ _ _ (_ :: _) _ _
      refine .g (x := .tsl 1 (v7j1.map rI) 0) 0 1 ⟨OpQ.g (q_move rfl), OpQ.g (q_move rfl), trivial⟩ rfl (by kernel_rfl) rfl ?_
      refine .g (x := .d (.ro (rI (nth v7j1 (Int.toNat (0)))))) 0 1 ⟨OpQ.g (q_idxL (row := rI) (l := v7j1) (i := 0) underlying68 hi3 hs3 rfl rfl rfl hk7), OpQ.g (q_idxL (row := rI) (l := v7j1) (i := 0) underlying68 hi3 hs3 rfl rfl rfl hk7), trivial⟩ rfl (by kernel_rfl) rfl ?_
      refine .g (x := .d (cI (nth v7j1 (Int.toNat (0))))) 0 1 ⟨OpQ.g (q_load one_3 rfl), OpQ.g (q_load one_3 rfl), trivial⟩ rfl (by kernel_rfl) rfl ?_
      refine .g (x := .tsl 1 (v7j1.map rI) 0) 0 1 ⟨OpQ.g (q_move rfl), OpQ.g (q_move rfl), trivial⟩ rfl (by kernel_rfl) rfl ?_
      refine .g (x := .d (.ro (rI (nth v7j1 (Int.toNat (1)))))) 0 1 ⟨OpQ.g (q_idxL (row := rI) (l := v7j1) (i := 1) underlying68 hi3 hs3 rfl rfl rfl hk8), OpQ.g (q_idxL (row := rI) (l := v7j1) (i := 1) underlying68 hi3 hs3 rfl rfl rfl hk8), trivial⟩ rfl (by kernel_rfl) rfl ?_
      refine .g (x := .d (cI (nth v7j1 (Int.toNat (1))))) 0 1 ⟨OpQ.g (q_load one_3 rfl), OpQ.g (q_load one_3 rfl), trivial⟩ rfl (by kernel_rfl) rfl ?_
      refine .g (x := .d (slOf 1 rB8 v0)) 0 1 ⟨OpQ.g (q_move rfl), OpQ.g (q_move rfl), trivial⟩ rfl (by kernel_rfl) rfl ?_
      refine .g (x := .d (.ro (rB8 (nth v0 (Int.toNat (6)))))) 0 1 ⟨OpQ.g (q_idxL (row := rB8) (l := v0) (i := 6) underlying22 hi5 hs5 rfl rfl rfl hk9), OpQ.g (q_idxL (row := rB8) (l := v0) (i := 6) underlying22 hi5 hs5 rfl rfl rfl hk9), trivial⟩ rfl (by kernel_rfl) rfl ?_
      refine .g (x := .d (cU8 (nth v0 (Int.toNat (6))))) 0 1 ⟨OpQ.g (q_load one_5 rfl), OpQ.g (q_load one_5 rfl), trivial⟩ rfl (by kernel_rfl) rfl ?_
      refine .g (x := .d (cU8 ((nth v0 (Int.toNat (6))) / 16))) 0 1 ⟨OpQ.g (q8_quo (a := nth v0 (Int.toNat (6))) (b := 16) rfl rfl hk10), OpQ.g (q8_quo (a := nth v0 (Int.toNat (6))) (b := 16) rfl rfl hk10), trivial⟩ rfl (by kernel_rfl) rfl ?_
      refine .g (x := .d (cI (((nth v0 (Int.toNat (6))) / 16).toNat : Int))) 0 1 ⟨OpQ.g (q_conv8i (a := (nth v0 (Int.toNat (6))) / 16) underlying5 underlying3 rfl), OpQ.g (q_conv8i (a := (nth v0 (Int.toNat (6))) / 16) underlying5 underlying3 rfl), trivial⟩ rfl (by kernel_rfl) rfl ?_
      refine .g (x := .d (cS y2.1)) 0 1 ⟨OpQ.g (q_move rfl), OpQ.g (q_move rfl), trivial⟩ rfl (by kernel_rfl) rfl ?_
      refine .g (x := .d (cS y3.1)) 0 1 ⟨OpQ.g (q_move rfl), OpQ.g (q_move rfl), trivial⟩ rfl (by kernel_rfl) rfl ?_
      refine .g (x := .tsl 1 (v7j1.map rI) 0) 0 1 ⟨OpQ.g (q_move rfl), OpQ.g (q_move rfl), trivial⟩ rfl (by kernel_rfl) rfl ?_
      refine .g (x := .d (.ro (rI (nth v7j1 (Int.toNat (2)))))) 0 1 ⟨OpQ.g (q_idxL (row := rI) (l := v7j1) (i := 2) underlying68 hi3 hs3 rfl rfl rfl hk11), OpQ.g (q_idxL (row := rI) (l := v7j1) (i := 2) underlying68 hi3 hs3 rfl rfl rfl hk11), trivial⟩ rfl (by kernel_rfl) rfl ?_
      refine .g (x := .d (cI (nth v7j1 (Int.toNat (2))))) 0 1 ⟨OpQ.g (q_load one_3 rfl), OpQ.g (q_load one_3 rfl), trivial⟩ rfl (by kernel_rfl) rfl ?_
      refine .g (x := .tsl 1 (v7j1.map rI) 0) 0 1 ⟨OpQ.g (q_move rfl), OpQ.g (q_move rfl), trivial⟩ rfl (by kernel_rfl) rfl ?_
      refine .g (x := .d (.ro (rI (nth v7j1 (Int.toNat (3)))))) 0 1 ⟨OpQ.g (q_idxL (row := rI) (l := v7j1) (i := 3) underlying68 hi3 hs3 rfl rfl rfl hk12), OpQ.g (q_idxL (row := rI) (l := v7j1) (i := 3) underlying68 hi3 hs3 rfl rfl rfl hk12), trivial⟩ rfl (by kernel_rfl) rfl ?_
      refine .g (x := .d (cI (nth v7j1 (Int.toNat (3))))) 0 1 ⟨OpQ.g (q_load one_3 rfl), OpQ.g (q_load one_3 rfl), trivial⟩ rfl (by kernel_rfl) rfl ?_
      refine .g (x := .tsl 1 (v7j1.map rI) 0) 0 1 ⟨OpQ.g (q_move rfl), OpQ.g (q_move rfl), trivial⟩ rfl (by kernel_rfl) rfl ?_
      refine .g (x := .d (.ro (rI (nth v7j1 (Int.toNat (4)))))) 0 1 ⟨OpQ.g (q_idxL (row := rI) (l := v7j1) (i := 4) underlying68 hi3 hs3 rfl rfl rfl hk13), OpQ.g (q_idxL (row := rI) (l := v7j1) (i := 4) underlying68 hi3 hs3 rfl rfl rfl hk13), trivial⟩ rfl (by kernel_rfl) rfl ?_
      refine .g (x := .d (cI (nth v7j1 (Int.toNat (4))))) 0 1 ⟨OpQ.g (q_load one_3 rfl), OpQ.g (q_load one_3 rfl), trivial⟩ rfl (by kernel_rfl) rfl ?_
      refine .g (x := .tsl 1 (v7j1.map rI) 0) 0 1 ⟨OpQ.g (q_move rfl), OpQ.g (q_move rfl), trivial⟩ rfl (by kernel_rfl) rfl ?_
      refine .g (x := .d (.ro (rI (nth v7j1 (Int.toNat (5)))))) 0 1 ⟨OpQ.g (q_idxL (row := rI) (l := v7j1) (i := 5) underlying68 hi3 hs3 rfl rfl rfl hk14), OpQ.g (q_idxL (row := rI) (l := v7j1) (i := 5) underlying68 hi3 hs3 rfl rfl rfl hk14), trivial⟩ rfl (by kernel_rfl) rfl ?_
      refine .g (x := .d (cI (nth v7j1 (Int.toNat (5))))) 0 1 ⟨OpQ.g (q_load one_3 rfl), OpQ.g (q_load one_3 rfl), trivial⟩ rfl (by kernel_rfl) rfl ?_
      refine .g (x := .tsl 1 (v7j1.map rI) 0) 0 1 ⟨OpQ.g (q_move rfl), OpQ.g (q_move rfl), trivial⟩ rfl (by kernel_rfl) rfl ?_
      refine .g (x := .d (.ro (rI (nth v7j1 (Int.toNat (6)))))) 0 1 ⟨OpQ.g (q_idxL (row := rI) (l := v7j1) (i := 6) underlying68 hi3 hs3 rfl rfl rfl hk15), OpQ.g (q_idxL (row := rI) (l := v7j1) (i := 6) underlying68 hi3 hs3 rfl rfl rfl hk15), trivial⟩ rfl (by kernel_rfl) rfl ?_
      refine .g (x := .d (cI (nth v7j1 (Int.toNat (6))))) 0 1 ⟨OpQ.g (q_load one_3 rfl), OpQ.g (q_load one_3 rfl), trivial⟩ rfl (by kernel_rfl) rfl ?_
      refine .g (x := .d (slOf 1 rB8 v0)) 0 1 ⟨OpQ.g (q_move rfl), OpQ.g (q_move rfl), trivial⟩ rfl (by kernel_rfl) rfl ?_
      refine .g (x := .d (.ro (rB8 (nth v0 (Int.toNat (6)))))) 0 1 ⟨OpQ.g (q_idxL (row := rB8) (l := v0) (i := 6) underlying22 hi5 hs5 rfl rfl rfl hk16), OpQ.g (q_idxL (row := rB8) (l := v0) (i := 6) underlying22 hi5 hs5 rfl rfl rfl hk16), trivial⟩ rfl (by kernel_rfl) rfl ?_
      refine .g (x := .d (cU8 (nth v0 (Int.toNat (6))))) 0 1 ⟨OpQ.g (q_load one_5 rfl), OpQ.g (q_load one_5 rfl), trivial⟩ rfl (by kernel_rfl) rfl ?_
      refine .g (x := .d (cU8 ((nth v0 (Int.toNat (6))) % 2))) 0 1 ⟨OpQ.g (q8_rem (a := nth v0 (Int.toNat (6))) (b := 2) rfl rfl hk17), OpQ.g (q8_rem (a := nth v0 (Int.toNat (6))) (b := 2) rfl rfl hk17), trivial⟩ rfl (by kernel_rfl) rfl ?_
      refine .g (x := .d (cB (((nth v0 (Int.toNat (6))) % 2) == 1))) 0 1 ⟨OpQ.g (q8_eql (a := (nth v0 (Int.toNat (6))) % 2) (b := 1) rfl rfl), OpQ.g (q8_eql (a := (nth v0 (Int.toNat (6))) % 2) (b := 1) rfl rfl), trivial⟩ rfl (by kernel_rfl) rfl ?_
      refine .g (x := .d (slOf 1 rB8 v0)) 0 1 ⟨OpQ.g (q_move rfl), OpQ.g (q_move rfl), trivial⟩ rfl (by kernel_rfl) rfl ?_
      refine .g (x := .d (.ro (rB8 (nth v0 (Int.toNat (6)))))) 0 1 ⟨OpQ.g (q_idxL (row := rB8) (l := v0) (i := 6) underlying22 hi5 hs5 rfl rfl rfl hk18), OpQ.g (q_idxL (row := rB8) (l := v0) (i := 6) underlying22 hi5 hs5 rfl rfl rfl hk18), trivial⟩ rfl (by kernel_rfl) rfl ?_
      refine .g (x := .d (cU8 (nth v0 (Int.toNat (6))))) 0 1 ⟨OpQ.g (q_load one_5 rfl), OpQ.g (q_load one_5 rfl), trivial⟩ rfl (by kernel_rfl) rfl ?_
      refine .g (x := .d (cU8 ((nth v0 (Int.toNat (6))) % 16))) 0 1 ⟨OpQ.g (q8_rem (a := nth v0 (Int.toNat (6))) (b := 16) rfl rfl hk19), OpQ.g (q8_rem (a := nth v0 (Int.toNat (6))) (b := 16) rfl rfl hk19), trivial⟩ rfl (by kernel_rfl) rfl ?_
      refine .g (x := .d (cB (decide (((nth v0 (Int.toNat (6))) % 16) ≥ 2)))) 0 1 ⟨OpQ.g (q8_geq (a := (nth v0 (Int.toNat (6))) % 16) (b := 2) rfl rfl), OpQ.g (q8_geq (a := (nth v0 (Int.toNat (6))) % 16) (b := 2) rfl rfl), trivial⟩ rfl (by kernel_rfl) rfl ?_
      refine .g (x := .d (.agg (Record.row (⟨nth v7j1 (Int.toNat (0)), nth v7j1 (Int.toNat (1)), (((nth v0 (Int.toNat (6))) / 16).toNat : Int), y2.1, y3.1, nth v7j1 (Int.toNat (2)), nth v7j1 (Int.toNat (3)), nth v7j1 (Int.toNat (4)), nth v7j1 (Int.toNat (5)), (((nth v0 (Int.toNat (6))) % 2) == 1), nth v7j1 (Int.toNat (6)), decide (((nth v0 (Int.toNat (6))) % 16) ≥ 2)⟩ : Record)))) 0 1 ⟨OpQ.g (q_buildP pl_49 hi49 hz49 rfl (by kernel_rfl)), OpQ.g (q_buildP pl_49 hi49 hz49 rfl (by kernel_rfl)), trivial⟩ rfl (by kernel_rfl) rfl ?_
      refine .v (x := .ref 2 0) 0 (v_alloc zr_49 rfl) rfl rfl rfl rfl ?_
      refine .nil rfl ?_
      show AOps _ _ _ _ _ _ (_ :: _) _ _ _
      obtain ⟨y4, hy4, H⟩ := bind_some' H
      refine .A 14 [.i y4] rfl (g_call (en 85 rfl) rfl rfl (c_f_r09_Error (hy4))) ?_
      refine .ite H rfl (fun H => ?_) (fun H => ?_)
      ·refine .A 7 [] rfl trivial ?_
       refine .R func87 results87 rfl ?_
       cases H
       exact .m rfl (.tupD rfl)
      ·refine .A 7 [] rfl trivial ?_
       refine .R func87 results87 rfl ?_
       cases H
       exact .m rfl (.tupD rfl)
    ·intro hj1 hj1x
     obtain ⟨n1, H⟩ := loop_some H
     refine .loop (ι := Nat × (List Int × Bool × Int)) (fun ⟨_, v7l1, v8l1, v9l1⟩ => [(0, .d (slOf 1 rB8 v0)), (2, .ref 0 0), (4, .ref 1 0), (5, .d (slOf 1 rI ([0, 1, 23, 29, 36, 41, 42] : List Int))), (6, .d (slOf 1 rI ([1, 6, 29, 36, 41, 42, 44] : List Int))), (7, .tsl 1 (v7l1.map rI) 0), (8, .d (cB v8l1)), (9, .d (cI v9l1))]) (fun ⟨_, v7l1, v8l1, v9l1⟩ => ⟨[.row 49 [.d (cI 0), .d (cI 0), .d (cI 0), .d (cS ([] : List UInt8)), .d (cS ([] : List UInt8)), .d (cI 0), .d (cI 0), .d (cI 0), .d (cI 0), .d (cB false), .d (cI 0), .d (cB false)], .row 49 [.d (cI 0), .d (cI 0), .d (cI 0), .d (cS ([] : List UInt8)), .d (cS ([] : List UInt8)), .d (cI 0), .d (cI 0), .d (cI 0), .d (cI 0), .d (cB false), .d (cI 0), .d (cB false)]], [⟨3, 1, v7l1.length, none⟩]⟩) (fun p => iter (fun s => f_r11_Decode_l1 v0 s.1 s.2.1 s.2.2) p.1 p.2 = some r) (·.1) (n1, (([] : List Int), decide (((nth v0 (Int.toNat (6))) % 16) ≤ 3), 0)) H (.cons rfl (.rfl' _) (.cons rfl (.rfl' _) (.cons rfl (.rfl' _) (.cons rfl (.rfl' _) (.cons rfl (.rfl' _) (.cons rfl (.rfl' _) (.cons rfl (.rfl' _) (.cons rfl (.rfl' _) (.nil))))))))) rfl ?_
     rintro ⟨m1, v7l1, v8l1, v9l1⟩ HI ih1
     obtain ⟨n1, q1, hm1, H, HK1⟩ := iter_succ HI
     clear HI
     replace H : f_r11_Decode_l1 v0 v7l1 v8l1 v9l1 = some q1 := H
     unfold f_r11_Decode_l1 at H
     refine .A 8 [.i (([0, 1, 23, 29, 36, 41, 42] : List Int).length : Int)] rfl (s68.n rfl rfl) ?_
     refine .ite H rfl (fun H => ?_) (fun H => ?_)
     ·obtain ⟨hk20, H⟩ := ck_some H
      obtain ⟨hk21, H⟩ := ck_some H
      obtain ⟨hk22, H⟩ := ck_some H
      obtain ⟨y5, hy5, H⟩ := bind_some' H
      obtain ⟨hk23, H⟩ := ck_some H
      obtain ⟨hk24, H⟩ := ck_some H
      refine .A 45 [.p 16, .d (.ro (rI (nth ([0, 1, 23, 29, 36, 41, 42] : List Int) v9l1.toNat))), .d (.ro (rI (nth ([1, 6, 29, 36, 41, 42, 44] : List Int) v9l1.toNat))), .d (slOf 1 rB8 ((v0.take (Int.toNat (nth ([1, 6, 29, 36, 41, 42, 44] : List Int) v9l1.toNat))).drop (Int.toNat (nth ([0, 1, 23, 29, 36, 41, 42] : List Int) v9l1.toNat)))), .d (.tup [cI y5.1, cI y5.2]), .d (slOf 1 rI ([y5.1] : List Int)), .a 0 3 1 rI (v7l1 ++ ([y5.1] : List Int)), .i (v9l1 + 1)] rfl ⟨g_addI rfl rfl hk24, rfl, rfl, s68.a rfl rfl rfl rfl hk23, g_buildSlice1 underlying68 hi3 hs3 hz3 rfl rfl rfl rfl rfl, g_call (en 99 rfl) rfl rfl (c_f_r11_Decimal (hy5)), OpQ.g (q_slLHL (l := v0) (row := rB8) underlying22 hi5 hs5 rfl rfl rfl rfl hk22), s68.ix rfl rfl rfl hk21, s68.ix rfl rfl rfl hk20, (show drawB _ _ = true by kernel_rfl)⟩ ?_
      cases H
      exact .z (ih1 (n1, (v7l1 ++ ([y5.1] : List Int), (v8l1 && (y5.2 == 0)), v9l1 + 1)) HK1 hm1) rfl rfl
     ·refine .A 1 [] rfl trivial ?_
      obtain ⟨q0, H9, hq0⟩ := map_some' H; clear H; cases hq0
      cases HK1
      have H := H9
      exact .z (hj1x (v7l1, v8l1) H) rfl rfl
theorem c_f_r11_All {v0b : List UInt8} {r : (List Record) × (List Reject) × Int} (H : f_r11_All v0b = some r) : ACall prog 54 [slOf 1 rB8 v0b] (· = .tup [slOf 12 Record.row r.1, slOf 4 Reject.row r.2.1, cI r.2.2]) := by
 obtain ⟨i5, hi5, hz5, hs5, hb5⟩ := in_5
 obtain ⟨i49, hi49, hz49, hs49, hb49⟩ := in_49
 obtain ⟨i64, hi64, hz64, hs64, hb64⟩ := in_64
 refine ACall.enter' func54 rfl ntmps54 rfl fun S hS => ?_
 unfold f_r11_All at H
 obtain ⟨hk1, H⟩ := ck_some H
 refine .A 14 [.i (v0b.length : Int), .i (Int.tmod (v0b.length : Int) 45)] rfl ⟨OpQ.g (q_remT rfl rfl hk1), s22.n rfl rfl⟩ ?_
 refine .ite H rfl (fun H => ?_) (fun H => ?_)
 ·refine .A 6 [] rfl trivial ?_
  refine .R func54 results54 rfl ?_
  cases H
  exact .m rfl (.tupL ⟨.nil 12, .nil 4, .rfl' _, trivial⟩)
 ·obtain ⟨hk2, H⟩ := ck_some H
  refine .A 9 [.i (v0b.length : Int), .i (Int.tdiv (v0b.length : Int) 45)] rfl ⟨OpQ.g (q_quoT rfl rfl hk2), s22.n rfl rfl⟩ ?_
  refine .ite H rfl (fun H => ?_) (fun H => ?_)
  ·refine .A 6 [] rfl trivial ?_
   refine .R func54 results54 rfl ?_
   cases H
   exact .m rfl (.tupL ⟨.nil 12, .nil 4, .rfl' _, trivial⟩)
  ·refine .A 14 [] rfl trivial ?_
   refine .tok (i := 5) (e := 49) (sz := 12) rfl ?_
   refine .tok (i := 6) (e := 64) (sz := 4) rfl ?_
   refine .blockJoin2 (ι := List Record × List Reject) (fun ⟨v5outj1, v6noj1⟩ => [(5, .tsl 12 (v5outj1.map Record.row) 0), (6, .tsl 4 (v6noj1.map Reject.row) 1)]) (fun ⟨v5outj1, v6noj1⟩ => ⟨[], [⟨49, 12, v5outj1.length, none⟩, ⟨64, 4, v6noj1.length, none⟩]⟩) (fun s => f_r11_All_j1 s.1 s.2 = some r) ?_ ?_
   ·rintro ⟨v5outj1, v6noj1⟩ H
    replace H : f_r11_All_j1 v5outj1 v6noj1 = some r := H
    unfold f_r11_All_j1 at H
    refine .A 8 [] rfl trivial ?_
    refine .R func54 results54 rfl ?_
    cases H
    exact .m rfl (.tupL ⟨.tsl _ _ _, .tsl _ _ _, .rfl' _, trivial⟩)
   ·intro hj1 hj1x
    obtain ⟨n1, H⟩ := loop_some H
    refine .loop (ι := Nat × (List Record × List Reject × Int)) (fun ⟨_, v5outl1, v6nol1, v7il1⟩ => [(0, .d (slOf 1 rB8 v0b)), (5, .tsl 12 (v5outl1.map Record.row) 0), (6, .tsl 4 (v6nol1.map Reject.row) 1), (7, .d (cI v7il1))]) (fun ⟨_, v5outl1, v6nol1, v7il1⟩ => ⟨[], [⟨49, 12, v5outl1.length, none⟩, ⟨64, 4, v6nol1.length, none⟩]⟩) (fun p => iter (fun s => f_r11_All_l1 v0b s.1 s.2.1 s.2.2) p.1 p.2 = some r) (·.1) (n1, (([] : List Record), ([] : List Reject), 0)) H (.cons rfl (.rfl' _) (.cons rfl (.rfl' _) (.cons rfl (.rfl' _) (.cons rfl (.rfl' _) (.nil))))) rfl ?_
    rintro ⟨m1, v5outl1, v6nol1, v7il1⟩ HI ih1
    obtain ⟨n1, q1, hm1, H, HK1⟩ := iter_succ HI
    clear HI
    replace H : f_r11_All_l1 v0b v5outl1 v6nol1 v7il1 = some q1 := H
    unfold f_r11_All_l1 at H
    obtain ⟨hk3, H⟩ := ck_some H
    refine .A 9 [.i (v0b.length : Int), .i (Int.tdiv (v0b.length : Int) 45)] rfl ⟨OpQ.g (q_quoT rfl rfl hk3), s22.n rfl rfl⟩ ?_
    refine .ite H rfl (fun H => ?_) (fun H => ?_)
    ·obtain ⟨hk4, H⟩ := ck_some H
     obtain ⟨hk5, H⟩ := ck_some H
     obtain ⟨hk6, H⟩ := ck_some H
     obtain ⟨hk7, H⟩ := ck_some H
     obtain ⟨y1, hy1, H⟩ := bind_some' H
     refine .A 25 [.i (v7il1 * 45), .i (v7il1 + 1), .i ((v7il1 + 1) * 45), .d (slOf 1 rB8 ((v0b.take ((v7il1 + 1) * 45).toNat).drop (v7il1 * 45).toNat)), .d (.tup [.agg (Record.row y1.1), cI y1.2]), .r 0] rfl ⟨g_call (en 100 rfl) rfl rfl (c_f_r11_Decode (hy1)), OpQ.g (q_slLHL (l := v0b) (row := rB8) underlying22 hi5 hs5 rfl rfl rfl rfl hk7), g_mulI rfl rfl hk6, g_addI rfl rfl hk5, g_mulI rfl rfl hk4⟩ ?_
     refine .ite H rfl (fun H => ?_) (fun H => ?_)
     ·obtain ⟨hk8, H⟩ := ck_some H
      obtain ⟨hk9, H⟩ := ck_some H
      refine .A 13 [.d (slOf 12 Record.row ([y1.1] : List Record)), .a 0 49 12 Record.row (v5outl1 ++ ([y1.1] : List Record)), .i (v7il1 + 1)] rfl ⟨g_addI rfl rfl hk9, s29.a rfl rfl rfl rfl hk8, g_buildSlice1 underlying29 hi49 hs49 hz49 rfl rfl rfl rfl rfl⟩ ?_
      cases H
      exact .t 0 2 (ih1 (n1, (v5outl1 ++ ([y1.1] : List Record), v6nol1, v7il1 + 1)) HK1 hm1) rfl rfl rfl rfl rfl hS rfl
     ·obtain ⟨hk10, H⟩ := ck_some H
      obtain ⟨hk11, H⟩ := ck_some H
      refine .A 15 [.d (.agg (Reject.row (⟨0, 0, v7il1, y1.2⟩ : Reject))), .d (slOf 4 Reject.row ([(⟨0, 0, v7il1, y1.2⟩ : Reject)] : List Reject)), .a 1 64 4 Reject.row (v6nol1 ++ ([(⟨0, 0, v7il1, y1.2⟩ : Reject)] : List Reject)), .i (v7il1 + 1)] rfl ⟨g_addI rfl rfl hk11, s32.a rfl rfl rfl rfl hk10, g_buildSlice1 underlying32 hi64 hs64 hz64 rfl rfl rfl rfl rfl, OpQ.g (q_buildP pl_64 hi64 hz64 rfl rfl)⟩ ?_
      cases H
      exact .t 0 2 (ih1 (n1, (v5outl1, v6nol1 ++ ([(⟨0, 0, v7il1, y1.2⟩ : Reject)] : List Reject), v7il1 + 1)) HK1 hm1) rfl rfl rfl rfl rfl hS rfl
    ·refine .A 1 [] rfl trivial ?_
     obtain ⟨q0, H9, hq0⟩ := map_some' H; clear H; cases hq0
     cases HK1
     have H := H9
     exact .z (hj1x (v5outl1, v6nol1) H) rfl rfl
theorem c_f_r12_all {v0format : Int} {v1b : List UInt8} {r : (List Record) × (List Reject) × Int} (H : f_r12_all v0format v1b = some r) : ACall prog 25 [cI v0format, slOf 1 rB8 v1b] (· = .tup [slOf 12 Record.row r.1, slOf 4 Reject.row r.2.1, cI r.2.2]) := by
 refine ACall.enter' func25 rfl ntmps25 rfl fun S hS => ?_
 unfold f_r12_all at H
 refine .A 17 [] rfl trivial ?_
 refine .ite H rfl (fun H => ?_) (fun H => ?_)
 ·obtain ⟨y1, hy1, H⟩ := bind_some' H
  refine .A 12 [.s v1b, .d (.tup [slOf 12 Record.row y1.1, slOf 4 Reject.row y1.2.1, cI y1.2.2])] rfl ⟨g_call (en 101 rfl) rfl rfl (c_f_r09_All (hy1)), OpQ.g (q_bytesStrL (a := v1b) underlying22 underlying5 underlying9 rfl rfl)⟩ ?_
  refine .R func25 results25 rfl ?_
  cases H
  exact .m rfl (.tupD rfl)
 ·refine .A 5 [] rfl trivial ?_
  refine .ite H rfl (fun H => ?_) (fun H => ?_)
  ·obtain ⟨y2, hy2, H⟩ := bind_some' H
   refine .A 11 [.d (.tup [slOf 12 Record.row y2.1, slOf 4 Reject.row y2.2.1, cI y2.2.2])] rfl (g_call (en 102 rfl) rfl rfl (c_f_r10_All (hy2))) ?_
   refine .R func25 results25 rfl ?_
   cases H
   exact .m rfl (.tupD rfl)
  ·obtain ⟨y3, hy3, H⟩ := bind_some' H
   refine .A 13 [.d (.tup [slOf 12 Record.row y3.1, slOf 4 Reject.row y3.2.1, cI y3.2.2])] rfl (g_call (en 103 rfl) rfl rfl (c_f_r11_All (hy3))) ?_
   refine .R func25 results25 rfl ?_
   cases H
   exact .m rfl (.tupD rfl)
theorem c_f_r12_trailer {v0b : List UInt8} {r : Totals × Int} (H : f_r12_trailer v0b = some r) : ACall prog 26 [slOf 1 rB8 v0b] (· = .tup [.agg (Totals.row r.1), cI r.2]) := by
 obtain ⟨i3, hi3, hz3, hs3, hb3⟩ := in_3
 obtain ⟨i50, hi50, hz50, hs50, hb50⟩ := in_50
 obtain ⟨i52, hi52, hz52, hs52, hb52⟩ := in_52
 refine ACall.enter' func26 rfl ntmps26 rfl fun S hS => ?_
 unfold f_r12_trailer at H
 obtain ⟨y1, hy1, H⟩ := bind_some' H
 refine .A 23 [.r 0, .d (.tup [slOf 1 rB8 y1.1, slOf 1 rB8 y1.2.1, cI y1.2.2])] rfl (g_call (en 51 rfl) rfl rfl (c_f_r08_Unwrap (hy1))) ?_
 refine .ite H rfl (fun H => ?_) (fun H => ?_)
 ·refine .A 7 [.d (.agg (Totals.row (⟨0, ([0, 0, 0, 0, 0] : List Int)⟩ : Totals)))] rfl (OpQ.g (q_buildP pl_52 hi52 hz52 rfl rfl)) ?_
  refine .R func26 results26 rfl ?_
  cases H
  exact .m rfl (.tupD rfl)
 ·refine .A 8 [.i (y1.2.1.length : Int)] rfl (s22.n rfl rfl) ?_
  refine .ite H rfl (fun H => ?_) (fun H => ?_)
  ·refine .A 6 [.d (.agg (Totals.row (⟨0, ([0, 0, 0, 0, 0] : List Int)⟩ : Totals)))] rfl (OpQ.g (q_buildP pl_52 hi52 hz52 rfl rfl)) ?_
   refine .R func26 results26 rfl ?_
   cases H
   exact .m rfl (.tupD rfl)
  ·obtain ⟨y2, hy2, H⟩ := bind_some' H
   refine .A 17 [.d (.tup [slOf 1 rI y2.1, cI y2.2])] rfl (g_call (en 52 rfl) rfl rfl (c_f_r12_take (hy2))) ?_
   refine .ite H rfl (fun H => ?_) (fun H => ?_)
   ·refine .A 7 [.d (.agg (Totals.row (⟨0, ([0, 0, 0, 0, 0] : List Int)⟩ : Totals)))] rfl (OpQ.g (q_buildP pl_52 hi52 hz52 rfl rfl)) ?_
    refine .R func26 results26 rfl ?_
    cases H
    exact .m rfl (.tupD rfl)
   ·obtain ⟨hk1, H⟩ := ck_some H
    obtain ⟨hk2, H⟩ := ck_some H
    obtain ⟨hk3, H⟩ := ck_some H
    obtain ⟨hk4, H⟩ := ck_some H
    obtain ⟨hk5, H⟩ := ck_some H
    refine .A 24 [.p 17, .d (.ro (rI (nth y2.1 (Int.toNat (0))))), .d (.ro (rI (nth y2.1 (Int.toNat (1))))), .d (.ro (rI (nth y2.1 (Int.toNat (2))))), .d (.ro (rI (nth y2.1 (Int.toNat (3))))), .d (.ro (rI (nth y2.1 (Int.toNat (4))))), .d (.agg [cI 0, cI (nth y2.1 (Int.toNat (1))), cI (nth y2.1 (Int.toNat (2))), cI (nth y2.1 (Int.toNat (3))), cI (nth y2.1 (Int.toNat (4)))]), .d (.agg (Totals.row (⟨nth y2.1 (Int.toNat (0)), ([0, nth y2.1 (Int.toNat (1)), nth y2.1 (Int.toNat (2)), nth y2.1 (Int.toNat (3)), nth y2.1 (Int.toNat (4))] : List Int)⟩ : Totals)))] rfl ⟨OpQ.g (q_buildP pl_52 hi52 hz52 rfl rfl), OpQ.g (q_buildArr underlying50 hi50 hz50 hi3 hs3 rfl rfl), s68.ix rfl rfl rfl hk5, s68.ix rfl rfl rfl hk4, s68.ix rfl rfl rfl hk3, s68.ix rfl rfl rfl hk2, s68.ix rfl rfl rfl hk1, (show drawB _ _ = true by kernel_rfl)⟩ ?_
    refine .R func26 results26 rfl ?_
    cases H
    exact .m rfl (.tupD rfl)
set_option maxRecDepth 100000
set_option maxHeartbeats 1000000
theorem c_f_r12_Totals {v0records : List Record} {r : Totals} (H : f_r12_Totals v0records = some r) : ACall prog 27 [slOf 12 Record.row v0records] (· = .agg (Totals.row r)) := by
 obtain ⟨i3, hi3, hz3, hs3, hb3⟩ := in_3
 obtain ⟨i52, hi52, hz52, hs52, hb52⟩ := in_52
 refine ACall.enter' func27 rfl ntmps27 rfl fun S hS => ?_
 unfold f_r12_Totals at H
 refine .A 18 [.r 0, .i (v0records.length : Int), .d (.agg (Totals.row (⟨(v0records.length : Int), ([0, 0, 0, 0, 0] : List Int)⟩ : Totals))), .r 1] rfl ⟨OpQ.g (q_buildP pl_52 hi52 hz52 rfl rfl), s29.n rfl rfl⟩ ?_
 obtain ⟨n1, H⟩ := loop_some H
 refine .loop (ι := Nat × (Int × Int × Int × Int × Int × Int)) (fun ⟨_, v4il1, o1c1l1, o1c2l1, o1c3l1, o1c4l1, o1c5l1⟩ => [(0, .d (slOf 12 Record.row v0records)), (2, .ref 0 0), (3, .ref 1 0), (4, .d (cI v4il1))]) (fun ⟨_, v4il1, o1c1l1, o1c2l1, o1c3l1, o1c4l1, o1c5l1⟩ => ⟨[.row 52 [.d (cI 0), .d (cI 0), .d (cI 0), .d (cI 0), .d (cI 0), .d (cI 0)], .row 52 [.d (cI (v0records.length : Int)), .d (cI o1c1l1), .d (cI o1c2l1), .d (cI o1c3l1), .d (cI o1c4l1), .d (cI o1c5l1)]], []⟩) (fun p => iter (fun s => f_r12_Totals_l1 v0records s.1 s.2.1 s.2.2.1 s.2.2.2.1 s.2.2.2.2.1 s.2.2.2.2.2) p.1 p.2 = some r) (·.1) (n1, (0, 0, 0, 0, 0, 0)) H (.cons rfl (.rfl' _) (.cons rfl (.rfl' _) (.cons rfl (.rfl' _) (.cons rfl (.rfl' _) (.nil))))) rfl ?_
 rintro ⟨m1, v4il1, o1c1l1, o1c2l1, o1c3l1, o1c4l1, o1c5l1⟩ HI ih1
 obtain ⟨n1, q1, hm1, H, HK1⟩ := iter_succ HI
 clear HI
 replace H : f_r12_Totals_l1 v0records v4il1 o1c1l1 o1c2l1 o1c3l1 o1c4l1 o1c5l1 = some q1 := H
 unfold f_r12_Totals_l1 at H
 refine .A 8 [.i (v0records.length : Int)] rfl (s29.n rfl rfl) ?_
 refine .ite H rfl (fun H => ?_) (fun H => ?_)
 ·obtain ⟨hk1, H⟩ := ck_some H
  refine .A 33 [.d (.ro (Record.row (nth v0records v4il1.toNat))), .r 2] rfl ⟨rfl, rfl, rfl, rfl, rfl, rfl, rfl, rfl, rfl, s29.ix rfl rfl rfl hk1⟩ ?_
  refine .ite H rfl (fun H => ?_) (fun H => ?_)
  ·obtain ⟨hk2, H⟩ := ck_some H
   obtain ⟨hk3, H⟩ := ck_some H
   obtain ⟨hk4, H⟩ := ck_some H
   obtain ⟨hk5, H⟩ := ck_some H
   obtain ⟨hk6, H⟩ := ck_some H
   obtain ⟨hk7, H⟩ := ck_some H
   refine .A 22 [.p 12, .g (.ref 1 (1 + ((nth v0records v4il1.toNat).kind).toNat)), .f 15 (.d (cI (nth ([o1c1l1, o1c2l1, o1c3l1, o1c4l1, o1c5l1] : List Int) ((nth v0records v4il1.toNat).kind).toNat))), .i ((nth ([o1c1l1, o1c2l1, o1c3l1, o1c4l1, o1c5l1] : List Int) ((nth v0records v4il1.toNat).kind).toNat) + ((nth v0records v4il1.toNat).units)), .g (.ref 1 (1 + ((nth v0records v4il1.toNat).kind).toNat)), .w 8 ⟨[.row 52 [.d (cI 0), .d (cI 0), .d (cI 0), .d (cI 0), .d (cI 0), .d (cI 0)], .row 52 [.d (cI (v0records.length : Int)), .d (cI (nth (setN ([o1c1l1, o1c2l1, o1c3l1, o1c4l1, o1c5l1] : List Int) 5 ((nth v0records v4il1.toNat).kind).toNat ((nth ([o1c1l1, o1c2l1, o1c3l1, o1c4l1, o1c5l1] : List Int) ((nth v0records v4il1.toNat).kind).toNat) + ((nth v0records v4il1.toNat).units))) 0)), .d (cI (nth (setN ([o1c1l1, o1c2l1, o1c3l1, o1c4l1, o1c5l1] : List Int) 5 ((nth v0records v4il1.toNat).kind).toNat ((nth ([o1c1l1, o1c2l1, o1c3l1, o1c4l1, o1c5l1] : List Int) ((nth v0records v4il1.toNat).kind).toNat) + ((nth v0records v4il1.toNat).units))) 1)), .d (cI (nth (setN ([o1c1l1, o1c2l1, o1c3l1, o1c4l1, o1c5l1] : List Int) 5 ((nth v0records v4il1.toNat).kind).toNat ((nth ([o1c1l1, o1c2l1, o1c3l1, o1c4l1, o1c5l1] : List Int) ((nth v0records v4il1.toNat).kind).toNat) + ((nth v0records v4il1.toNat).units))) 2)), .d (cI (nth (setN ([o1c1l1, o1c2l1, o1c3l1, o1c4l1, o1c5l1] : List Int) 5 ((nth v0records v4il1.toNat).kind).toNat ((nth ([o1c1l1, o1c2l1, o1c3l1, o1c4l1, o1c5l1] : List Int) ((nth v0records v4il1.toNat).kind).toNat) + ((nth v0records v4il1.toNat).units))) 3)), .d (cI (nth (setN ([o1c1l1, o1c2l1, o1c3l1, o1c4l1, o1c5l1] : List Int) 5 ((nth v0records v4il1.toNat).kind).toNat ((nth ([o1c1l1, o1c2l1, o1c3l1, o1c4l1, o1c5l1] : List Int) ((nth v0records v4il1.toNat).kind).toNat) + ((nth v0records v4il1.toNat).units))) 4))], .row 49 [.d (cI ((nth v0records v4il1.toNat).source)), .d (cI ((nth v0records v4il1.toNat).serial)), .d (cI ((nth v0records v4il1.toNat).kind)), .d (cS ((nth v0records v4il1.toNat).a)), .d (cS ((nth v0records v4il1.toNat).b)), .d (cI ((nth v0records v4il1.toNat).start)), .d (cI ((nth v0records v4il1.toNat).units)), .d (cI ((nth v0records v4il1.toNat).call)), .d (cI ((nth v0records v4il1.toNat).part)), .d (cB ((nth v0records v4il1.toNat).last)), .d (cI ((nth v0records v4il1.toNat).trunk)), .d (cB ((nth v0records v4il1.toNat).inbound))]], []⟩, .i (v4il1 + 1)] rfl ⟨g_addI rfl rfl hk7, .e (u_storeK (n := 5) (off := 1) (i := ((nth v0records v4il1.toNat).kind).toNat) (l := ([o1c1l1, o1c2l1, o1c3l1, o1c4l1, o1c5l1] : List Int)) (c1 := cI) (a := (nth ([o1c1l1, o1c2l1, o1c3l1, o1c4l1, o1c5l1] : List Int) ((nth v0records v4il1.toNat).kind).toNat) + ((nth v0records v4il1.toNat).units)) rfl rfl rfl rfl rfl hk6 sz_3) rfl, OpQ.g (q_idxK (off := 1) (i := (nth v0records v4il1.toNat).kind) underlying50 ⟨_, hi3, hs3⟩ rfl rfl hk5), g_addI rfl rfl hk4, OpQ.g (q_loadK (n := 5) (off := 1) (i := ((nth v0records v4il1.toNat).kind).toNat) (l := ([o1c1l1, o1c2l1, o1c3l1, o1c4l1, o1c5l1] : List Int)) (c1 := cI) one_3 rfl rfl rfl hk3), OpQ.g (q_idxK (off := 1) (i := (nth v0records v4il1.toNat).kind) underlying50 ⟨_, hi3, hs3⟩ rfl rfl hk2), (show drawB _ _ = true by kernel_rfl)⟩ ?_
   cases H
   exact .t 2 0 (ih1 (n1, (v4il1 + 1, nth (setN ([o1c1l1, o1c2l1, o1c3l1, o1c4l1, o1c5l1] : List Int) 5 ((nth v0records v4il1.toNat).kind).toNat ((nth ([o1c1l1, o1c2l1, o1c3l1, o1c4l1, o1c5l1] : List Int) ((nth v0records v4il1.toNat).kind).toNat) + ((nth v0records v4il1.toNat).units))) 0, nth (setN ([o1c1l1, o1c2l1, o1c3l1, o1c4l1, o1c5l1] : List Int) 5 ((nth v0records v4il1.toNat).kind).toNat ((nth ([o1c1l1, o1c2l1, o1c3l1, o1c4l1, o1c5l1] : List Int) ((nth v0records v4il1.toNat).kind).toNat) + ((nth v0records v4il1.toNat).units))) 1, nth (setN ([o1c1l1, o1c2l1, o1c3l1, o1c4l1, o1c5l1] : List Int) 5 ((nth v0records v4il1.toNat).kind).toNat ((nth ([o1c1l1, o1c2l1, o1c3l1, o1c4l1, o1c5l1] : List Int) ((nth v0records v4il1.toNat).kind).toNat) + ((nth v0records v4il1.toNat).units))) 2, nth (setN ([o1c1l1, o1c2l1, o1c3l1, o1c4l1, o1c5l1] : List Int) 5 ((nth v0records v4il1.toNat).kind).toNat ((nth ([o1c1l1, o1c2l1, o1c3l1, o1c4l1, o1c5l1] : List Int) ((nth v0records v4il1.toNat).kind).toNat) + ((nth v0records v4il1.toNat).units))) 3, nth (setN ([o1c1l1, o1c2l1, o1c3l1, o1c4l1, o1c5l1] : List Int) 5 ((nth v0records v4il1.toNat).kind).toNat ((nth ([o1c1l1, o1c2l1, o1c3l1, o1c4l1, o1c5l1] : List Int) ((nth v0records v4il1.toNat).kind).toNat) + ((nth v0records v4il1.toNat).units))) 4)) HK1 hm1) rfl rfl rfl rfl rfl hS rfl
  ·obtain ⟨hk8, H⟩ := ck_some H
   refine .A 7 [.i (v4il1 + 1)] rfl (g_addI rfl rfl hk8) ?_
   cases H
   exact .t 2 0 (ih1 (n1, (v4il1 + 1, o1c1l1, o1c2l1, o1c3l1, o1c4l1, o1c5l1)) HK1 hm1) rfl rfl rfl rfl rfl hS rfl
 ·refine .A 6 [] rfl trivial ?_
  refine .R func27 results27 rfl ?_
  cases H
  cases HK1
  exact .m rfl (.rfl' _)
theorem c_f_r12_Read {v0 : List UInt8} {r : Batch × (List Reject) × Int} (H : f_r12_Read v0 = some r) : ACall prog 10 [slOf 1 rB8 v0] (· = .tup [.agg (Batch.row r.1), slOf 4 Reject.row r.2.1, cI r.2.2]) := by
 obtain ⟨i31, hi31, hz31, hs31, hb31⟩ := in_31
 refine ACall.enter' func10 rfl ntmps10 rfl fun S hS => ?_
 unfold f_r12_Read at H
 obtain ⟨y1, hy1, H⟩ := bind_some' H
 refine .A 25 [.r 0, .d (.tup [.agg (Head.row y1.1), slOf 1 rB8 y1.2.1, cI y1.2.2]), .r 1] rfl (g_call (en 54 rfl) rfl rfl (c_f_r12_first (hy1))) ?_
 refine .ite H rfl (fun H => ?_) (fun H => ?_)
 ·refine .A 8 [.d (.agg (Batch.row (⟨0, 0, 0, ([] : List Record)⟩ : Batch)))] rfl (OpQ.g (OpQ.le (q_buildP pl_31 hi31 hz31 rfl rfl) (EVle.d (.agg ⟨.rfl' _, .rfl' _, .rfl' _, .nil 12, trivial⟩)))) ?_
  refine .R func10 results10 rfl ?_
  cases H
  exact .m rfl (.tupL ⟨.rfl' _, .nil 4, .rfl' _, trivial⟩)
 ·obtain ⟨y2, hy2, H⟩ := bind_some' H
  refine .A 19 [.d (.tup [slOf 1 rB8 y2.1, slOf 1 rB8 y2.2.1, cI y2.2.2])] rfl (g_call (en 51 rfl) rfl rfl (c_f_r08_Unwrap (hy2))) ?_
  refine .ite H rfl (fun H => ?_) (fun H => ?_)
  ·refine .A 8 [.d (.agg (Batch.row (⟨0, 0, 0, ([] : List Record)⟩ : Batch)))] rfl (OpQ.g (OpQ.le (q_buildP pl_31 hi31 hz31 rfl rfl) (EVle.d (.agg ⟨.rfl' _, .rfl' _, .rfl' _, .nil 12, trivial⟩)))) ?_
   refine .R func10 results10 rfl ?_
   cases H
   exact .m rfl (.tupL ⟨.rfl' _, .nil 4, .rfl' _, trivial⟩)
  ·obtain ⟨y3, hy3, H⟩ := bind_some' H
   refine .A 21 [.d (.tup [slOf 12 Record.row y3.1, slOf 4 Reject.row y3.2.1, cI y3.2.2])] rfl (g_call (en 104 rfl) rfl rfl (c_f_r12_all (hy3))) ?_
   refine .ite H rfl (fun H => ?_) (fun H => ?_)
   ·refine .A 8 [.d (.agg (Batch.row (⟨0, 0, 0, ([] : List Record)⟩ : Batch)))] rfl (OpQ.g (OpQ.le (q_buildP pl_31 hi31 hz31 rfl rfl) (EVle.d (.agg ⟨.rfl' _, .rfl' _, .rfl' _, .nil 12, trivial⟩)))) ?_
    refine .R func10 results10 rfl ?_
    cases H
    exact .m rfl (.tupL ⟨.rfl' _, .nil 4, .rfl' _, trivial⟩)
   ·obtain ⟨y4, hy4, H⟩ := bind_some' H
    refine .A 18 [.d (.tup [.agg (Totals.row y4.1), cI y4.2]), .r 2] rfl (g_call (en 105 rfl) rfl rfl (c_f_r12_trailer (hy4))) ?_
    refine .ite H rfl (fun H => ?_) (fun H => ?_)
    ·refine .A 8 [.d (.agg (Batch.row (⟨0, 0, 0, ([] : List Record)⟩ : Batch)))] rfl (OpQ.g (OpQ.le (q_buildP pl_31 hi31 hz31 rfl rfl) (EVle.d (.agg ⟨.rfl' _, .rfl' _, .rfl' _, .nil 12, trivial⟩)))) ?_
     refine .R func10 results10 rfl ?_
     cases H
     exact .m rfl (.tupL ⟨.rfl' _, .nil 4, .rfl' _, trivial⟩)
    ·obtain ⟨y5, hy5, H⟩ := bind_some' H
     refine .A 17 [.p 11, .d (.agg (Totals.row y5)), .b (!(eqVs (Totals.vals y4.1) (Totals.vals y5))), .i (y3.1.length : Int)] rfl ⟨rfl, rfl, rfl, fun hg => s29.n rfl rfl, rfl, rfl, OpQ.g (q_gtneq fg_52 rfl rfl (xs := Totals.vals y4.1) (ys := Totals.vals y5) rfl rfl rfl rfl), g_call (en 106 rfl) rfl rfl (c_f_r12_Totals (hy5)), (show drawB _ _ = true by kernel_rfl)⟩ ?_
     refine .ite H rfl (fun H => ?_) (fun H => ?_)
     ·refine .A 7 [.d (.agg (Batch.row (⟨0, 0, 0, ([] : List Record)⟩ : Batch)))] rfl (OpQ.g (OpQ.le (q_buildP pl_31 hi31 hz31 rfl rfl) (EVle.d (.agg ⟨.rfl' _, .rfl' _, .rfl' _, .nil 12, trivial⟩)))) ?_
      refine .R func10 results10 rfl ?_
      cases H
      exact .m rfl (.tupL ⟨.rfl' _, .nil 4, .rfl' _, trivial⟩)
     ·refine .A 6 [] rfl trivial ?_
      refine .blockJoin2 (ι := Unit) (fun _ => [(2, .ref 0 0), (5, .ref 1 0), (10, .d (slOf 12 Record.row y3.1)), (11, .d (slOf 4 Reject.row y3.2.1))]) (fun _ => ⟨[.row 31 [.d (cI 0), .d (cI 0), .d (cI 0), .d (nilD)], .row 25 [.d (cI y1.1.source), .d (cI y1.1.number), .d (cI y1.1.format), .d (cI y1.1.count)], .row 52 [.d (cI y4.1.count), .d (cI (nth y4.1.units 0)), .d (cI (nth y4.1.units 1)), .d (cI (nth y4.1.units 2)), .d (cI (nth y4.1.units 3)), .d (cI (nth y4.1.units 4))]], []⟩) (fun s => f_r12_Read_j1 y1 y3 = some r) ?_ ?_
      ·rintro _ H
       replace H : f_r12_Read_j1 y1 y3 = some r := H
       unfold f_r12_Read_j1 at H
       refine .A 15 [.d (.agg (Batch.row (⟨y1.1.source, y1.1.number, y1.1.format, y3.1⟩ : Batch)))] rfl (OpQ.g (q_buildP pl_31 hi31 hz31 rfl rfl)) ?_
       refine .R func10 results10 rfl ?_
       cases H
       exact .m rfl (.tupD rfl)
      ·intro hj1 hj1x
       obtain ⟨n1, H⟩ := loop_some H
       refine .loop (ι := Nat × (Int)) (fun ⟨_, v13l1⟩ => [(2, .ref 0 0), (5, .ref 1 0), (10, .d (slOf 12 Record.row y3.1)), (11, .d (slOf 4 Reject.row y3.2.1)), (13, .d (cI v13l1))]) (fun ⟨_, v13l1⟩ => ⟨[.row 31 [.d (cI 0), .d (cI 0), .d (cI 0), .d (nilD)], .row 25 [.d (cI y1.1.source), .d (cI y1.1.number), .d (cI y1.1.format), .d (cI y1.1.count)], .row 52 [.d (cI y4.1.count), .d (cI (nth y4.1.units 0)), .d (cI (nth y4.1.units 1)), .d (cI (nth y4.1.units 2)), .d (cI (nth y4.1.units 3)), .d (cI (nth y4.1.units 4))]], []⟩) (fun p => iter (fun s => f_r12_Read_l1 y1 y3 s) p.1 p.2 = some r) (·.1) (n1, 0) H (.cons rfl (.rfl' _) (.cons rfl (.rfl' _) (.cons rfl (.rfl' _) (.cons rfl (.rfl' _) (.cons rfl (.rfl' _) (.nil)))))) rfl ?_
       rintro ⟨m1, v13l1⟩ HI ih1
       obtain ⟨n1, q1, hm1, H, HK1⟩ := iter_succ HI
       clear HI
       replace H : f_r12_Read_l1 y1 y3 v13l1 = some q1 := H
       unfold f_r12_Read_l1 at H
       refine .A 8 [.i (y3.1.length : Int)] rfl (s29.n rfl rfl) ?_
       refine .ite H rfl (fun H => ?_) (fun H => ?_)
       ·obtain ⟨hk1, H⟩ := ck_some H
        refine .A 15 [.p 8, .d (.ro (Record.row (nth y3.1 v13l1.toNat)))] rfl ⟨s29.ix rfl rfl rfl hk1, (show drawB _ _ = true by kernel_rfl)⟩ ?_
        refine .ite H rfl (fun H => ?_) (fun H => ?_)
        ·refine .A 7 [.d (.agg (Batch.row (⟨0, 0, 0, ([] : List Record)⟩ : Batch)))] rfl (OpQ.g (OpQ.le (q_buildP pl_31 hi31 hz31 rfl rfl) (EVle.d (.agg ⟨.rfl' _, .rfl' _, .rfl' _, .nil 12, trivial⟩)))) ?_
         refine .R func10 results10 rfl ?_
         cases H
         cases HK1
         exact .m rfl (.tupL ⟨.rfl' _, .nil 4, .rfl' _, trivial⟩)
        ·obtain ⟨hk2, H⟩ := ck_some H
         refine .A 7 [.i (v13l1 + 1)] rfl (g_addI rfl rfl hk2) ?_
         cases H
         exact .z (ih1 (n1, (v13l1 + 1)) HK1 hm1) rfl rfl
       ·refine .A 1 [] rfl trivial ?_
        obtain ⟨q0, H9, hq0⟩ := map_some' H; clear H; cases hq0
        cases HK1
        have H := H9
        exact .z (hj1x () H) rfl rfl
theorem c_f_r09_Same {v0a : List Record} {v1b : List Record} {r : Bool} (H : f_r09_Same v0a v1b = some r) : ACall prog 28 [slOf 12 Record.row v0a, slOf 12 Record.row v1b] (· = cB r) := by
 refine ACall.enter' func28 rfl ntmps28 rfl fun S hS => ?_
 unfold f_r09_Same at H
 refine .A 13 [.i (v0a.length : Int), .i (v1b.length : Int)] rfl ⟨s29.n rfl rfl, s29.n rfl rfl⟩ ?_
 refine .ite H rfl (fun H => ?_) (fun H => ?_)
 ·refine .A 4 [] rfl trivial ?_
  refine .R func28 results28 rfl ?_
  cases H
  exact .m rfl (.rfl' _)
 ·refine .A 7 [] rfl trivial ?_
  obtain ⟨n1, H⟩ := loop_some H
  refine .loop (ι := Nat × (Int)) (fun ⟨_, v5il1⟩ => [(0, .d (slOf 12 Record.row v0a)), (1, .d (slOf 12 Record.row v1b)), (5, .d (cI v5il1))]) (fun ⟨_, v5il1⟩ => ⟨[], []⟩) (fun p => iter (fun s => f_r09_Same_l1 v0a v1b s) p.1 p.2 = some r) (·.1) (n1, 0) H (.cons rfl (.rfl' _) (.cons rfl (.rfl' _) (.cons rfl (.rfl' _) (.nil)))) rfl ?_
  rintro ⟨m1, v5il1⟩ HI ih1
  obtain ⟨n1, q1, hm1, H, HK1⟩ := iter_succ HI
  clear HI
  replace H : f_r09_Same_l1 v0a v1b v5il1 = some q1 := H
  unfold f_r09_Same_l1 at H
  refine .A 8 [.i (v0a.length : Int)] rfl (s29.n rfl rfl) ?_
  refine .ite H rfl (fun H => ?_) (fun H => ?_)
  ·obtain ⟨hk1, H⟩ := ck_some H
   obtain ⟨hk2, H⟩ := ck_some H
   refine .A 16 [.p 9, .d (.ro (Record.row (nth v0a v5il1.toNat))), .d (.ro (Record.row (nth v1b v5il1.toNat))), .b (!(eqVs (Record.vals (nth v0a v5il1.toNat)) (Record.vals (nth v1b v5il1.toNat))))] rfl ⟨OpQ.g (q_stneq fk_49 rfl rfl (xs := Record.vals (nth v0a v5il1.toNat)) (ys := Record.vals (nth v1b v5il1.toNat)) rfl rfl rfl rfl), s29.ix rfl rfl rfl hk2, s29.ix rfl rfl rfl hk1, (show drawB _ _ = true by kernel_rfl)⟩ ?_
   refine .ite H rfl (fun H => ?_) (fun H => ?_)
   ·refine .A 4 [] rfl trivial ?_
    refine .R func28 results28 rfl ?_
    cases H
    cases HK1
    exact .m rfl (.rfl' _)
   ·obtain ⟨hk3, H⟩ := ck_some H
    refine .A 7 [.i (v5il1 + 1)] rfl (g_addI rfl rfl hk3) ?_
    cases H
    exact .z (ih1 (n1, (v5il1 + 1)) HK1 hm1) rfl rfl
  ·refine .A 5 [] rfl trivial ?_
   refine .R func28 results28 rfl ?_
   cases H
   cases HK1
   exact .m rfl (.rfl' _)
theorem c_f_r12_Same {v0a : Batch} {v1b : Batch} {r : Bool} (H : f_r12_Same v0a v1b = some r) : ACall prog 11 [.agg (Batch.row v0a), .agg (Batch.row v1b)] (· = cB r) := by
 refine ACall.enter' func11 rfl ntmps11 rfl fun S hS => ?_
 unfold f_r12_Same at H
 obtain ⟨y1, hy1, H⟩ := bind_some' H
 refine .A 36 [.r 0, .r 1, .b y1] rfl ⟨rfl, fun hg => g_call (en 107 rfl) rfl rfl (c_f_r09_Same (gcall_some hy1 hg)), rfl, rfl, rfl, rfl, rfl, rfl, rfl, rfl, rfl, rfl, rfl, rfl, rfl, rfl⟩ ?_
 refine .R func11 results11 rfl ?_
 cases H
 exact .m rfl (.rfl' _)
theorem c_f_r09_SameRejects {v0a : List Reject} {v1b : List Reject} {r : Bool} (H : f_r09_SameRejects v0a v1b = some r) : ACall prog 12 [slOf 4 Reject.row v0a, slOf 4 Reject.row v1b] (· = cB r) := by
 refine ACall.enter' func12 rfl ntmps12 rfl fun S hS => ?_
 unfold f_r09_SameRejects at H
 refine .A 13 [.i (v0a.length : Int), .i (v1b.length : Int)] rfl ⟨s32.n rfl rfl, s32.n rfl rfl⟩ ?_
 refine .ite H rfl (fun H => ?_) (fun H => ?_)
 ·refine .A 4 [] rfl trivial ?_
  refine .R func12 results12 rfl ?_
  cases H
  exact .m rfl (.rfl' _)
 ·refine .A 7 [] rfl trivial ?_
  obtain ⟨n1, H⟩ := loop_some H
  refine .loop (ι := Nat × (Int)) (fun ⟨_, v5il1⟩ => [(0, .d (slOf 4 Reject.row v0a)), (1, .d (slOf 4 Reject.row v1b)), (5, .d (cI v5il1))]) (fun ⟨_, v5il1⟩ => ⟨[], []⟩) (fun p => iter (fun s => f_r09_SameRejects_l1 v0a v1b s) p.1 p.2 = some r) (·.1) (n1, 0) H (.cons rfl (.rfl' _) (.cons rfl (.rfl' _) (.cons rfl (.rfl' _) (.nil)))) rfl ?_
  rintro ⟨m1, v5il1⟩ HI ih1
  obtain ⟨n1, q1, hm1, H, HK1⟩ := iter_succ HI
  clear HI
  replace H : f_r09_SameRejects_l1 v0a v1b v5il1 = some q1 := H
  unfold f_r09_SameRejects_l1 at H
  refine .A 8 [.i (v0a.length : Int)] rfl (s32.n rfl rfl) ?_
  refine .ite H rfl (fun H => ?_) (fun H => ?_)
  ·obtain ⟨hk1, H⟩ := ck_some H
   obtain ⟨hk2, H⟩ := ck_some H
   refine .A 16 [.p 9, .d (.ro (Reject.row (nth v0a v5il1.toNat))), .d (.ro (Reject.row (nth v1b v5il1.toNat))), .b (!(eqVs (Reject.vals (nth v0a v5il1.toNat)) (Reject.vals (nth v1b v5il1.toNat))))] rfl ⟨OpQ.g (q_stneq fk_64 rfl rfl (xs := Reject.vals (nth v0a v5il1.toNat)) (ys := Reject.vals (nth v1b v5il1.toNat)) rfl rfl rfl rfl), s32.ix rfl rfl rfl hk2, s32.ix rfl rfl rfl hk1, (show drawB _ _ = true by kernel_rfl)⟩ ?_
   refine .ite H rfl (fun H => ?_) (fun H => ?_)
   ·refine .A 4 [] rfl trivial ?_
    refine .R func12 results12 rfl ?_
    cases H
    cases HK1
    exact .m rfl (.rfl' _)
   ·obtain ⟨hk3, H⟩ := ck_some H
    refine .A 7 [.i (v5il1 + 1)] rfl (g_addI rfl rfl hk3) ?_
    cases H
    exact .z (ih1 (n1, (v5il1 + 1)) HK1 hm1) rfl rfl
  ·refine .A 5 [] rfl trivial ?_
   refine .R func12 results12 rfl ?_
   cases H
   cases HK1
   exact .m rfl (.rfl' _)
theorem c_f_w12_BatchReads {v0 : List UInt8} {r : Bool} (H : f_w12_BatchReads v0 = some r) : ACall prog 3 [slOf 1 rB8 v0] (· = cB r) := by
 refine ACall.enter' func3 rfl ntmps3 rfl fun S hS => ?_
 unfold f_w12_BatchReads at H
 refine .A 11 [.i (v0.length : Int)] rfl (s22.n rfl rfl) ?_
 refine .ite H rfl (fun H => ?_) (fun H => ?_)
 ·obtain ⟨y1, hy1, H⟩ := bind_some' H
  refine .A 5 [.b y1] rfl (g_call (en 108 rfl) rfl rfl (c_f_w12_awake (hy1))) ?_
  refine .R func3 results3 rfl ?_
  cases H
  exact .m rfl (.rfl' _)
 ·obtain ⟨y2, hy2, H⟩ := bind_some' H
  obtain ⟨y3, hy3, H⟩ := bind_some' H
  obtain ⟨y4, hy4, H⟩ := bind_some' H
  obtain ⟨y5, hy5, H⟩ := bind_some' H
  obtain ⟨y6, hy6, H⟩ := bind_some' H
  obtain ⟨y7, hy7, H⟩ := bind_some' H
  obtain ⟨y8, hy8, H⟩ := bind_some' H
  refine .A 79 [.d (.tup [.agg (Head.row y2.1), cI y2.2]), .r 0, .d (.tup [.agg (Head.row y3.1), cI y3.2]), .r 1, .d (.tup [.agg (Batch.row y4.1), slOf 4 Reject.row y4.2.1, cI y4.2.2]), .r 2, .d (.tup [.agg (Batch.row y5.1), slOf 4 Reject.row y5.2.1, cI y5.2.2]), .r 3, .b (eqVs (Head.vals y2.1) (Head.vals y3.1)), .b y6, .b y7, .b y8] rfl ⟨rfl, fun hg => g_call (en 108 rfl) rfl rfl (c_f_w12_awake (gcall_some hy8 hg)), rfl, rfl, rfl, rfl, fun hg => g_call (en 109 rfl) rfl rfl (c_f_r09_SameRejects (gcall_some hy7 hg)), rfl, rfl, rfl, fun hg => g_call (en 110 rfl) rfl rfl (c_f_r12_Same (gcall_some hy6 hg)), rfl, rfl, rfl, rfl, rfl, OpQ.g (q_steql fk_25 rfl rfl (xs := Head.vals y2.1) (ys := Head.vals y3.1) rfl rfl rfl rfl), g_call (en 111 rfl) rfl rfl (c_f_r12_Read (hy5)), g_call (en 112 rfl) rfl rfl (c_f_batch_Read (hy4)), g_call (en 113 rfl) rfl rfl (c_f_r12_Head (hy3)), g_call (en 46 rfl) rfl rfl (c_f_batch_Head (hy2))⟩ ?_
  refine .R func3 results3 rfl ?_
  cases H
  exact .m rfl (.rfl' _)
set_option maxRecDepth 100000
set_option maxHeartbeats 1000000
set_option maxRecDepth 100000
set_option maxHeartbeats 1000000
end Go.Proofs.YthoengcicaicoaaGreatDoor
namespace Go.Abs
open Go.RowKit Go.ChangeShapes Go.WideShapes Go.Deep
inductive Sh where
 | i (k : IntKind)
 | b
 | s
 | sl (row : List Sh)
inductive DFits : Sh → D → Prop where
 | i (k : IntKind) (n : Int) (h : (Lit.int k n).wf = true) : DFits (.i k) (.ex (.int k n))
 | b (x : Bool) : DFits .b (.ex (.bool x))
 | s (l : List UInt8) (h : l.length ≤ maxLen) : DFits .s (.ex (.string ⟨l.toArray⟩))
 | sl (row : List Sh) (rows : List (List D)) (hn : rows.length ≤ maxLen) (h1 : ∀ r, r ∈ rows → r.length = row.length)
   (h : ∀ r, r ∈ rows → ∀ (i : Nat) sh d, row[i]? = some sh → r[i]? = some d → DFits sh d) : DFits (.sl row) (.sl row.length rows)
def shapeFs (P : Program) (rec : TypeId → Option (List Sh)) : List Field → Nat → Option (List Sh)
 | [], _ => some []
 | f :: fs, off => match rec f.type with
  | some r => if Nat.beq f.offset off && Nat.beq r.length (P.cellsOf f.type) then (shapeFs P rec fs (off + r.length)).map (r ++ ·) else none
  | none => none
def shape (P : Program) : Nat → TypeId → Option (List Sh)
 | 0, _ => none
 | n + 1, t => match P.underlying t with
  | some (.int k) => some [.i k]
  | some .bool => some [.b]
  | some .string => some [.s]
  | some (.slice e) => match shape P n e with
   | some r => if Nat.beq r.length (P.cellsOf e) && Nat.blt 0 r.length then some [.sl r] else none
   | none => none
  | some (.struct fs) => match shapeFs P (shape P n) fs.toList 0 with
   | some r => if Nat.beq r.length (P.cellsOf t) then some r else none
   | none => none
  | _ => none
def Opens (lim : Nat → Nat) (w : World) (shs : List Sh) (cs : List Value) : Prop :=
 ∃ ds : List D, ds.length = shs.length ∧ cs.length = shs.length ∧ ∀ (i : Nat) sh d c, shs[i]? = some sh → ds[i]? = some d → cs[i]? = some c → DFits sh d ∧ DRep lim w d c ∧ c.oneCell' = true
theorem Opens.one {lim : Nat → Nat} {w : World} {sh : Sh} {d : D} {c : Value} (h1 : DFits sh d) (h2 : DRep lim w d c) (h3 : c.oneCell' = true) : Opens lim w [sh] [c] := by
 refine ⟨[d], rfl, rfl, fun i sh' d' c' ha hb hc => ?_⟩
 cases i with
 | zero => simp at ha hb hc; subst ha; subst hb; subst hc; exact ⟨h1, h2, h3⟩
 | succ i => simp at ha
theorem Opens.nil {lim : Nat → Nat} {w : World} : Opens lim w [] [] := ⟨[], rfl, rfl, fun i _ _ _ h => by simp at h⟩
theorem Opens.append {lim : Nat → Nat} {w : World} {s1 s2 : List Sh} {c1 c2 : List Value} (h : Opens lim w s1 c1) (k : Opens lim w s2 c2) : Opens lim w (s1 ++ s2) (c1 ++ c2) := by
 obtain ⟨d1, a1, b1, e1⟩ := h
 obtain ⟨d2, a2, b2, e2⟩ := k
 refine ⟨d1 ++ d2, by simp [a1, a2], by simp [b1, b2], fun i sh d c ha hb hc => ?_⟩
 by_cases hi : i < s1.length
 ·rw [List.getElem?_append_left hi] at ha
  rw [List.getElem?_append_left (by omega)] at hb hc
  exact e1 i sh d c ha hb hc
 ·rw [List.getElem?_append_right (by omega)] at ha hb hc
  rw [a1] at hb
  rw [b1] at hc
  exact e2 _ sh d c ha hb hc
section opening
variable {H : Type} {enc : TypeId × Value → H} {P : Program} {w : World} {held : Bool} {lim : Nat → Nat}
theorem opens_fields {rec : TypeId → Option (List Sh)} (cs : List Value) : ∀ (fs : List Field) (off : Nat) (shs : List Sh), shapeFs P rec fs off = some shs → cs.length = off + shs.length →
  (∀ (i : Nat) f, fs[i]? = some f → ∀ r, rec f.type = some r → r.length = P.cellsOf f.type → Opens lim w r ((cs.drop f.offset).take (P.cellsOf f.type))) → Opens lim w shs (cs.drop off)
 | [], off, shs, h, hl, _ => by
  simp [shapeFs] at h; subst h
  rw [List.drop_of_length_le (by simp at hl; omega)]
  exact .nil
 | f :: fs, off, shs, h, hl, hf => by
  unfold shapeFs at h
  split at h
  ·rename_i r hr
   split at h
   ·rename_i hc
    rw [Bool.and_eq_true] at hc
    replace hc := And.intro (Nat.eq_of_beq_eq_true hc.1) (Nat.eq_of_beq_eq_true hc.2)
    obtain ⟨rest, hrest, rfl⟩ := Option.map_eq_some_iff.1 h
    simp only [List.length_append] at hl
    have h1 := hf 0 f rfl r hr hc.2
    have h2 := opens_fields cs fs (off + r.length) rest hrest (by omega) fun i g hg => hf (i + 1) g (by simpa using hg)
    have e : cs.drop off = (cs.drop f.offset).take (P.cellsOf f.type) ++ cs.drop (off + r.length) := by
     rw [hc.1, ← hc.2, ← List.drop_drop, List.take_append_drop]
    rw [e]
    exact h1.append h2
   ·cases h
  ·cases h
theorem opens_shape (hlim : ∀ b off u, w.cell? ⟨b, off, none⟩ = some u → off < lim b) : ∀ (n : Nat) (t : TypeId) (shs : List Sh), shape P n t = some shs → ∀ fuel cs x, DataW.trod enc P w 0 (fun _ => true) held fuel t cs = some x → Opens lim w shs cs
 | 0, _, _, h => by simp [shape] at h
 | n + 1, t, shs, h => by
  intro fuel cs x ht
  unfold shape at h
  split at h
  ·rename_i k hu
   cases h
   obtain ⟨m, rfl, _, hw⟩ := DataW.trod_int hu ht
   exact .one (.i k m hw) (.ex _) rfl
  ·rename_i hu
   cases h
   obtain ⟨b, rfl, _⟩ := DataW.trod_bool hu ht
   exact .one (.b b) (.ex _) rfl
  ·rename_i hu
   cases h
   obtain ⟨⟨a⟩, rfl, _, hs⟩ := DataW.trod_string hu ht
   exact .one (.s a.toList (by simpa [ByteArray.size] using hs)) (.ex _) rfl
  ·rename_i e hu
   split at h
   ·rename_i r hr
    split at h
    ·rename_i hc
     cases h
     rw [Bool.and_eq_true] at hc
     obtain ⟨hc1, hc2⟩ := And.intro (Nat.eq_of_beq_eq_true hc.1) (blt_lt hc.2)
     rcases open_slice hu ht with ⟨rfl, _⟩ | ⟨a, len, cap, m, n', D0, Pl, rfl, hb, hl, hm, hmm, hx, hi⟩
     ·exact .one (.sl r [] (Nat.zero_le _) (fun _ h => by cases h) (fun _ h => by cases h)) (.nil _ _) rfl
     ·simp only [if_true] at hmm
      subst hmm
      obtain ⟨F, hF⟩ := choose_lt (n := m) (p := fun i (ds : List D) => ds.length = r.length ∧ ∀ (j : Nat) sh d, r[j]? = some sh → ds[j]? = some d → ∃ c, w.cell? (a.add (i * r.length + j)) = some c ∧ DFits sh d ∧ DRep lim w d c ∧ c.oneCell' = true) (fun i hi' => by
       obtain ⟨cs', h1, h2⟩ := hi i hi'
       obtain ⟨ds, k1, k2, k3⟩ := opens_shape hlim n e r hr n' cs' _ h2
       obtain ⟨_, h3, h4⟩ := World.cells?_some h1
       refine ⟨ds, k1, fun j sh d hj hd => ?_⟩
       have hjl : j < r.length := (List.getElem?_eq_some_iff.1 hj).1
       have hc' : cs'[j]? = some (cs'[j]'(by omega)) := List.getElem?_eq_getElem (by omega)
       refine ⟨cs'[j]'(by omega), ?_, k3 j sh d _ hj hd hc'⟩
       rw [← hc', ← h4 j (by omega), ← hc1, Go.Deep.add_add])
      have hfit : DFits (.sl r) (.sl r.length ((List.range len).map F)) := by
       refine .sl r _ (by simp; omega) (fun row hrow => ?_) fun row hrow i sh d hs hd => ?_
       ·obtain ⟨i, hi2, rfl⟩ := List.mem_map.1 hrow
        exact (hF i (by have := List.mem_range.1 hi2; omega)).1
       ·obtain ⟨i', hi2, rfl⟩ := List.mem_map.1 hrow
        obtain ⟨c, _, hh, _⟩ := (hF i' (by have := List.mem_range.1 hi2; omega)).2 i sh d hs hd
        exact hh
      refine .one hfit ?_ rfl
      rcases Nat.eq_zero_or_pos m with h0 | h0
      ·subst h0
       have : len = 0 := by omega
       subst this
       exact .nil _ _
      ·have hspot : a.spot = none := by
        obtain ⟨cs', h1, h2⟩ := hi 0 h0
        obtain ⟨_, h3, h4⟩ := World.cells?_some h1
        have h5 := h4 0 (by omega)
        have h6 : cs'[0]? = some (cs'[0]'(by omega)) := List.getElem?_eq_getElem (by omega)
        rw [h6] at h5
        unfold World.cell? at h5
        split at h5
        ·split at h5
         ·cases h5
         ·rename_i hsp
          simpa [Addr.add] using hsp
        ·cases h5
       obtain ⟨b, off, sp⟩ := a
       simp only at hspot
       subst hspot
       have hcell : ∀ i j, i < m → j < r.length → ∀ sh d, r[j]? = some sh → (F i)[j]? = some d → ∃ c, w.cell? ⟨b, off + (i * r.length + j), none⟩ = some c ∧ DFits sh d ∧ DRep lim w d c ∧ c.oneCell' = true := fun i j hi' hj sh d hs hd => by
        obtain ⟨c, h1, h2⟩ := (hF i hi').2 j sh d hs hd
        rw [Addr.add_lit] at h1
        exact ⟨c, h1, h2⟩
       have hlen : ((List.range len).map F).length = len := by simp
       have key := DRep.sl (lim := lim) (w := w) r.length ((List.range len).map F) b off m (by rw [hlen]; exact hl) (fun row hrow => by
        obtain ⟨i, hi2, rfl⟩ := List.mem_map.1 hrow
        exact (hF i (by have := List.mem_range.1 hi2; omega)).1) (fun k hk => by
        rw [hlen] at hk
        have hdiv : k / r.length < len := Nat.div_lt_of_lt_mul (by rw [Nat.mul_comm]; exact hk)
        have hmod : k % r.length < r.length := Nat.mod_lt _ hc2
        obtain ⟨c, h1, h2, h3, h4⟩ := hcell (k / r.length) (k % r.length) (by omega) hmod _ _ (List.getElem?_eq_getElem hmod) (List.getElem?_eq_getElem (by rw [(hF _ (by omega)).1]; exact hmod))
        have e : k / r.length * r.length + k % r.length = k := by rw [Nat.mul_comm]; exact Nat.div_add_mod k r.length
        rw [e] at h1
        exact ⟨hlim _ _ _ h1, c, h1, h4⟩) (fun i j row c u h1 h2 h3 => by
        rw [List.getElem?_map] at h1
        obtain ⟨i', hi2, rfl⟩ := Option.map_eq_some_iff.1 h1
        have hil : i < len := by have := (List.getElem?_eq_some_iff.1 hi2).1; simpa using this
        have : i' = i := by rw [List.getElem?_range hil] at hi2; cases hi2; rfl
        subst this
        have hjl : j < r.length := by have := (List.getElem?_eq_some_iff.1 h2).1; rw [(hF _ (by omega)).1] at this; exact this
        obtain ⟨c', k1, k2, k3, k4⟩ := hcell i' j (by omega) hjl _ _ (List.getElem?_eq_getElem hjl) h2
        rw [h3] at k1
        cases k1
        exact k3)
       rw [hlen] at key
       exact key
    ·cases h
   ·cases h
  ·rename_i fs hu
   split at h
   ·rename_i r hr
    split at h
    ·rename_i hc
     cases h
     have hc' := Nat.eq_of_beq_eq_true hc
     obtain ⟨ys, n', _, hy, hlen, hyl, hf⟩ := DataW.trod_struct hu ht
     have := opens_fields (lim := lim) (w := w) (P := P) cs fs.toList 0 _ hr (by omega) fun i f hi r' hr' hl' => by
      have h1 := hf i f (by simpa using hi)
      have hys : ys[i]? = some (ys[i]'(by have := (List.getElem?_eq_some_iff.1 hi).1; simp at this; omega)) := List.getElem?_eq_getElem _
      exact opens_shape hlim n f.type r' hr' n' _ _ (h1.trans hys)
     simpa using this
    ·cases h
   ·cases h
  ·cases h
end opening
end Go.Abs
namespace Go.Abs
open Go.RowKit Go.ChangeShapes Go.WideShapes Go.Deep Go.ChangeAt
def limW (w : World) (b : Nat) : Nat := match w.heap[b]? with
 | some (.cells c _ _) => c.size
 | _ => 0
theorem limW_lt (w : World) (b off : Nat) (u : Value) (h : w.cell? ⟨b, off, none⟩ = some u) : off < limW w b := by
 unfold World.cell? at h
 unfold limW
 split at h
 ·rename_i c e k hb
  simp only at hb
  rw [hb]
  simp only [Option.isSome_none, Bool.false_eq_true, if_false] at h
  exact (Array.getElem?_eq_some_iff.1 h).1
 ·cases h
theorem Opens.top {lim : Nat → Nat} {w : World} {sh : Sh} {c : Value} (h : Opens lim w [sh] [c]) : ∃ d, DFits sh d ∧ DRep lim w d c := by
 obtain ⟨ds, h1, _, h3⟩ := h
 match ds, h1 with
 | [d], _ => exact ⟨d, (h3 0 sh d c rfl rfl rfl).1, (h3 0 sh d c rfl rfl rfl).2.1⟩
section top
variable {H : Type} {enc : TypeId × Value → H} {P : Program} {w : World} {held : Bool} {r : Reach} {b0 : Nat} {t : TypeId} {v : Value} {d : DataW H} {ps : List MemPlace}
theorem top_slice {n : Nat} {e : TypeId} {row : List Sh} (hs : shape P n t = some [.sl row]) (ht : P.underlying t = some (.slice e)) (hv : Value.okWide P w r b0 t v) (h : DataW.Trod enc P w 0 (fun _ => true) held t v d ps) : ∃ x, DFits (.sl row) x ∧ DRep (limW w) w x v := by
 obtain ⟨a, l, c, rfl⟩ := okWide_slice ht hv
 obtain ⟨fuel, hf⟩ := h
 exact (opens_shape (limW_lt w) n t _ hs fuel _ _ hf).top
end top
theorem rows_of {α : Type} {row : α → List D} {p : α → Prop} : ∀ {rows : List (List D)}, (∀ r, r ∈ rows → ∃ x, p x ∧ r = row x) → ∃ l : List α, rows = l.map row ∧ ∀ x, x ∈ l → p x
 | [], _ => ⟨[], rfl, fun x h => by cases h⟩
 | r :: rows, h => by
  obtain ⟨x, hx, rfl⟩ := h r List.mem_cons_self
  obtain ⟨l, rfl, hl⟩ := rows_of (rows := rows) (row := row) (p := p) fun r' hr => h r' (List.mem_cons_of_mem _ hr)
  exact ⟨x :: l, rfl, fun y hy => by rcases List.mem_cons.1 hy with rfl | hy; exact hx; exact hl y hy⟩
theorem DFits.sl_inv {row : List Sh} {d : D} (h : DFits (.sl row) d) : ∃ rows, d = .sl row.length rows ∧ rows.length ≤ maxLen ∧ ∀ r, r ∈ rows → r.length = row.length ∧ ∀ (i : Nat) sh d, row[i]? = some sh → r[i]? = some d → DFits sh d := by
 cases h with
 | sl _ rows hn h1 h => exact ⟨rows, rfl, hn, fun r hr => ⟨h1 r hr, h r hr⟩⟩
section
variable {H : Type} {enc : TypeId × Value → H} {P : Program}
theorem post_of_below {f : Func} {s : ChangeSpec} {apart fresh handsOn again : Bool} {W W' : World} {args : Array Value} {v : Value} {ds gs : List (DataW H)} {before pa pv : List MemPlace}
  (hW : DataW.Whole enc P f.params.toList s.vars apart W args.toList ds gs before)
  (hres : ∀ (b : Nat) (sp : Nat → Bool) (hd : Bool), DataW.TrodAll enc P W' b sp hd f.resultTypes.toList (v.resultList f.resultTypes.size) (s.fn H (ds ++ gs)).results [])
  (hargs : ∀ sp : Nat → Bool, (∀ p ∈ before, sp p.block = true) → DataW.TrodAll enc P W' 0 sp true f.params.toList args.toList (s.fn H (ds ++ gs)).args pa)
  (hvars : ∀ sp : Nat → Bool, (∀ p ∈ before, sp p.block = true) → DataW.TrodVars enc P W' sp s.vars (s.fn H (ds ++ gs)).vars pv)
  (hps : before = pa ++ pv) (hb : Below W.heap.size W W')
  (hok : ∀ (j : Nat) (t : TypeId) (r : Value), f.resultTypes[j]? = some t → (v.resultList f.resultTypes.size)[j]? = some r → Value.okWide P W' .any 0 t r) :
  s.post enc P f apart fresh handsOn again W args v W' := by
 have hlt : ∀ p ∈ before, p.block < W.heap.size := fun p hp => hW.lt p hp
 have hold : ∀ p ∈ before, (fun b => decide (b < W.heap.size)) p.block = true := fun p hp => by simpa using hlt p hp
 refine ⟨ds, gs, before, [], pa, pv, hW, hres _ _ _, hargs _ hold, hvars _ hold, World.keptBut_mono (fun p hp => ⟨hp, ?_⟩) (hb.frame (· ∈ before)), fun _ => ?_⟩
 ·rw [hps, List.mem_append] at hp
  exact Or.inr hp
 ·obtain ⟨_, _, _, _, _, hz, hn⟩ := hW
  refine ⟨hok, _, _, ([] ++ pa) ++ pv, ⟨[] ++ pa, pv, trodAll_append (hargs _ (fun _ _ => rfl)) (hres _ _ _), hvars _ (fun _ _ => rfl), rfl, ?_, ?_⟩, ?_⟩
  ·intro b off hp
   have hin : MemPlace.cell b off ∈ before := by rw [hps]; simpa using hp
   rw [hb.frozen (hlt _ hin)]
   exact hz b off hin
  ·intro ha
   have := hn ha
   rw [hps] at this
   simpa using this
  ·intro p hp _
   rw [hps]
   simpa using hp
end
theorem trodAll_stays {H : Type} {enc : TypeId × Value → H} {P : Program} (hl : laidOutB P = true) {W W' : World} (hb : Below W.heap.size W W') (sp : Nat → Bool) : ∀ {ts : List TypeId} {vs : List Value} {ds : List (DataW H)} {ps : List MemPlace},
  (ts.all fun t => P.readableRec t && decide (t < P.types.size)) = true → DataW.TrodAll enc P W 0 (fun _ => true) true ts vs ds ps → (∀ x ∈ ps, x.block < W.heap.size) → (∀ x ∈ ps, sp x.block = true) → DataW.TrodAll enc P W' 0 sp true ts vs ds ps
 | [], [], [], _, _, h, _, _ => h
 | t :: ts, v :: vs, d :: ds, ps, hr, h, hlt, hsp => by
  obtain ⟨p, q, h1, h2, rfl⟩ := h
  simp only [List.all_cons, Bool.and_eq_true, decide_eq_true_eq] at hr
  refine ⟨p, q, ?_, ?_, rfl⟩
  ·exact WideElems.Trod_stays hl hr.1.1 hr.1.2 h1 (fun x hx => hb.same (hlt x (List.mem_append_left _ hx))) (fun x hx => hsp x (List.mem_append_left _ hx))
  ·exact trodAll_stays hl hb sp (by simpa using hr.2) h2 (fun x hx => hlt x (List.mem_append_right _ hx)) (fun x hx => hsp x (List.mem_append_right _ hx))
theorem rows_of' {α : Type} {row : α → List D} {p : α → Prop} {rows : List (List D)} (h : ∀ r, r ∈ rows → ∃ x, r = row x ∧ p x) : ∃ l : List α, rows = l.map row ∧ ∀ x, x ∈ l → p x :=
 rows_of fun r hr => let ⟨x, h1, h2⟩ := h r hr; ⟨x, h2, h1⟩
theorem DFits.sl_of {sh : List Sh} {d : D} {α : Type} {row : α → List D} {p : α → Prop} (h : DFits (.sl sh) d)
  (hr : ∀ r : List D, r.length = sh.length → (∀ (i : Nat) h d, sh[i]? = some h → r[i]? = some d → DFits h d) → ∃ x, r = row x ∧ p x) :
  ∃ l : List α, d = .sl sh.length (l.map row) ∧ l.length ≤ maxLen ∧ ∀ z, z ∈ l → p z := by
 obtain ⟨rows, rfl, hn, h2⟩ := h.sl_inv
 obtain ⟨l, rfl, hl⟩ := rows_of' (row := row) (p := p) fun r hrm => hr r (h2 r hrm).1 (h2 r hrm).2
 exact ⟨l, rfl, by simpa using hn, hl⟩
theorem ofB8 (r : List D) (h1 : r.length = 1) (h2 : ∀ (i : Nat) sh d, ([.i .u8] : List Sh)[i]? = some sh → r[i]? = some d → DFits sh d) : ∃ x : UInt8, r = rB8 x ∧ True := by
 match r, h1 with
 | [d], _ =>
  have h := h2 0 _ d rfl rfl
  cases h with
  | i _ n hw =>
   simp [Lit.wf, IntKind.min, IntKind.max, IntKind.signed, IntKind.bits] at hw
   refine ⟨UInt8.ofNat n.toNat, ?_, trivial⟩
   have : ((UInt8.ofNat n.toNat).toNat : Int) = n := by simp [UInt8.toNat_ofNat']; omega
   unfold rB8
   rw [this]
section top
variable {H : Type} {enc : TypeId × Value → H} {P : Program} {w : World} {held : Bool} {r : Reach} {b0 : Nat} {t : TypeId} {v : Value} {d : DataW H} {ps : List MemPlace}
end top
end Go.Abs
namespace Go.Proofs.YthoengcicaicoaaGreatDoor
open Go.RowKit Go.ChangeShapes Go.WideShapes Go.ChangeAt Go.Abs
theorem own : ownKnob Tryz.prog.godebug = none := by kernel_rfl
theorem laidOut : laidOutB Tryz.prog = true := by kernel_rfl
section
variable {H : Type} {enc : TypeId × Value → H}
theorem returnsInHanded_and_shaped {a : Assume} {C : Checked} {os : Os} {f : FuncId} {fn : Func} {s : ChangeSpec} {conds : List PathCond} {apart fresh handsOn again : Bool} {X : World → Array Value → Prop}
  (hX : ∀ (w w' : World) (args : Array Value), w.heap = w'.heap → X w args → X w' args)
  (own : ownKnob C.prog.godebug = none) (started : os.Started) (noInit : C.prog.inits.idxOf? f = none) (hfn : C.prog.funcs[f]? = some fn)
  (witness : ∃ (w : World) (tape : Tape) (i : Input), w.os = os ∧ (w.forCall tape i).Shaped C.prog ∧ i.vars = [] ∧ Input.okWide C.prog (w.forCall tape i) .any w.heap.size f i ∧
   ((s.pre enc C.prog fn conds apart (w.forCall tape i).memory i.args ∧ X (w.forCall tape i).memory i.args) ∧ sizedMet enc C.prog fn (OpenSpec.ofChange s) apart (w.forCall tape i).memory i.args) ∧ a.holds C.prog (lone (Frame.enter C.prog f i.args .normal) [] (w.forCall tape i)))
  (contract : ∀ (W : World) (base : Nat) (args : Array Value) (ds gs : List (DataW H)) (before : List MemPlace),
   (∀ (j : Nat) t v, fn.params[j]? = some t → args[j]? = some v → Value.okWide C.prog W .any base t v) →
   DataW.Whole enc C.prog fn.params.toList s.vars apart W args.toList ds gs before →
   conds.all (PathCond.test C.prog ⟨fn.params.toList, ds, s.plain.varTypes C.prog, gs⟩) = true →
   (DataW.weightsEach C.prog (fn.params.toList ++ s.plain.varTypes C.prog) (ds ++ gs)).all (· ≤ reachBytes) = true → X W args →
   W.ShapedOpen C.prog →
   a.holds C.prog (lone (Frame.enter C.prog f args .normal) [] W) →
   Calls C.prog f args W fun e W' => ∃ v, e = .returned v ∧ s.post enc C.prog fn apart fresh handsOn again W args v W') :
  ReturnsInHanded a C os f .any (fun w args => (s.pre enc C.prog fn conds apart w args ∧ X w args) ∧ sizedMet enc C.prog fn (OpenSpec.ofChange s) apart w args) (s.post enc C.prog fn apart fresh handsOn again) := by
 refine returnsInHanded_of_calls own started noInit witness ?_
 intro w tape i _ hsh _ hok hpre hholds
 obtain ⟨_, _, _, fn', hfn', _, _, _, _, hval⟩ := hok
 have e : fn' = fn := Option.some.inj (hfn'.symm.trans hfn)
 subst e
 obtain ⟨⟨⟨ds, gs, before, hw, hc⟩, hx⟩, hz⟩ := hpre
 have hw' := DataW.Whole.of_heap (w' := w.forCall tape i) (by rfl) hw
 refine (contract (w.forCall tape i) w.heap.size i.args ds gs before hval hw' hc (hz.weights hw) (hX _ _ _ (by rfl) hx) hsh hholds).mono fun e W' ⟨v, he, hp⟩ => ?_
 subst he
 exact ChangeSpec.post_blind hp
end
def laidL : List (String × DataW Unit) := [("math/bits.deBruijn32tab", Rows.laid_math_bits_deBruijn32tab), ("math/bits.deBruijn64tab", Rows.laid_math_bits_deBruijn64tab), ("internal/strconv.uint64pow10", Rows.laid_internal_strconv_uint64pow10), ("unicode/utf8.acceptRanges", Rows.laid_unicode_utf8_acceptRanges), ("unicode/utf8.first", Rows.laid_unicode_utf8_first)]
theorem globs_of_laid {W : World} (h : laidMetH Tryz.prog laidL W) (hs : W.ShapedOpen Tryz.prog) : Globs W.heap.size W := by
 rw [MakeChecks.laidMetH_plain _ _ _ (by kernel_rfl)] at h
 have h1 := laidMet.filter (fun x => x.1 == "internal/strconv.uint64pow10") h
 have h2 : laidL.filter (fun x => x.1 == "internal/strconv.uint64pow10") = [("internal/strconv.uint64pow10", Go.Lib.tabData .u64 Go.Lib.pow10Tab)] := by kernel_rfl
 rw [h2] at h1
 have hn : Tryz.prog.globalNamed "internal/strconv.uint64pow10" = some 1 := by kernel_rfl
 have h3 := Go.Lib.tabIs_of_head (rest := []) hn (t := 182) (by kernel_rfl) Tryz.underlying182 Tryz.underlying122 (by kernel_rfl) (by kernel_rfl) h1
 obtain ⟨m, hm⟩ := cell_of_shapedOpen_int (P := Tryz.prog) (g := 0) (t := 3) (zero := #[.int .i64 0]) hs (of_decide_eq_true (by kernel_rfl)) (by kernel_rfl) rfl (by kernel_rfl) (by kernel_rfl) Tryz.underlying3
 unfold Go.Lib.TabIs World.var? at h3
 rw [hn] at h3
 simp only [Option.bind_some] at h3
 split at h3
 ·rename_i cs ty fr hb
  simp only [Option.some.injEq] at h3
  subst h3
  refine ⟨fun x hx => ?_, fun k hk => ?_⟩
  ·simp only [GL, List.mem_singleton] at hx
   subst hx
   exact ⟨(Array.getElem?_eq_some_iff.1 hb).1, ty, fr, hb⟩
  ·simp only [GI, List.mem_singleton] at hk
   subst hk
   exact ⟨World.block_lt_of_cell? W _ hm, m, hm⟩
 ·cases h3
end Go.Proofs.YthoengcicaicoaaGreatDoor
